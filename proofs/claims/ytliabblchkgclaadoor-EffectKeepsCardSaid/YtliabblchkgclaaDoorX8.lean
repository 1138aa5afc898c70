/- Effects: control. Conditions: as each says. Effects: move. Conditions: as each says. Effects: run. Conditions: as each says. Trees that are clean have small trees of the reference. Conditions: as each says. unicode/utf8.ValidString. Conditions: as each says. Texts without a fault, a character at a time. Conditions: as each says. unicode/utf8.ValidString: the walk. What parse reads, as plain Lean tells it. Conditions: none. Lex: Tokens. The reader of parse: its small steps. Conditions: as each says. -/
import Derived.Test.YtliabblchkgclaaDoorX7
import Derived.Test.YtliabblchkgclaaDoorX5
import Derived.Test.YtliabblchkgclaaDoorX3
set_option linter.all false
set_option maxRecDepth 20000
namespace Go.Proofs.YtliabblchkgclaaDoor
open Go Go.Av
section
variable {known : List UInt8 → Option (Int × Int)} {bf bw bm n l : Nat} {ents : List (AV × AV)} {o : LR} {s : EfS} {Post : AOut → St → Prop}
theorem permE (A E B : St) : (A ++ (E ++ B)).Perm (E ++ (B ++ A)) := by
  have := List.perm_append_comm (l₁ := A) (l₂ := E ++ B)
  rwa [List.append_assoc E B A] at this
theorem pop_c (E : St) {x : Slot} {t : EfS} (hv : popS s = (x, t)) (ho : okL o s) (hs : Fine s) (k : ∀ o', okL o' t → Post (.ret (.agg (slotC x))) (E ++ (WM bw bm ents l ++ FS bf bm bw o' t))) :
    ACalls Tryd.prog 45 [.ptr bf 0] (E ++ (WM bw bm ents l ++ FS bf bm bw o s)) Post := by
  have h := pop_use (Post := Post) (bm := bm) (bw := bw) (bf := bf) (st := E ++ (WM bw bm ents l ++ FS bf bm bw o s)) (R := E ++ WM bw bm ents l) ho hs (permE _ _ _)
  rw [hv] at h
  exact h fun o' h => by rw [List.append_assoc]; exact k o' h
theorem need_c {b : Bool} {st : St} (k1 : b = true → Post (.ret (.tup [])) st) (k2 : b = false → Post (.panic (stopV 12)) st) : ACalls Tryd.prog 48 [.bool b] st Post := by
  refine ACalls.usep (f_need b) (R := st) (List.Perm.refl _) ?_
  rintro out s' ⟨rfl, h⟩
  rw [List.append_nil]
  cases b with
  | true => rw [h]; exact k1 rfl
  | false => rw [h]; exact k2 rfl
theorem quot_c (E : St) (ho : okL o s) (hs : Fine s) (k1 : ∀ q t o', quotS s = .ok (q, t) → okL o' t → Post (.ret (.fz (itemAVs q) q.length false)) (E ++ (WM bw bm ents l ++ FS bf bm bw o' t)))
    (k2 : ∀ e, quotS s = .error e → Post (.panic (stopV e)) (E ++ WM bw bm ents l)) :
    ACalls Tryd.prog 46 [.ptr bf 0] (E ++ (WM bw bm ents l ++ FS bf bm bw o s)) Post := by
  refine ACalls.usep (f_quot bf bm bw o s ho hs) (R := E ++ WM bw bm ents l) (permE _ _ _) ?_
  intro out s' h
  unfold QuotP at h
  split at h
  · rename_i q t e
    obtain ⟨rfl, o', h1, rfl⟩ := h
    rw [List.append_assoc]; exact k1 q t o' e h1
  · rename_i e he
    obtain ⟨rfl, rfl⟩ := h
    rw [List.append_nil]; exact k2 e he
theorem run_c (E : St) {q : List Tree} {st : St} (hp : (E ++ (WM bw bm ents l ++ FS bf bm bw o s)).Perm st) (hl : s.left = l) (hR : RunC known bw bm ents n) (hn : s.left ≤ n) (ho : okL o s) (hb : Bud s) (hg : GoodS s) (hq : q.length ≤ 2513169434916) (hgq : goodIs q = true)
    (k1 : ∀ t o', runL known q s = .ok t → okL o' t → GoodS t → Post (.ret (.tup [])) (E ++ (WM bw bm ents t.left ++ FS bf bm bw o' t))) (k2 : ∀ e, runL known q s = .error e → Post (.panic (stopV e)) E) :
    ACalls Tryd.prog 21 [.ptr bf 0, .fz (itemAVs q) q.length false] st Post := by
  subst hl
  refine ACalls.usep (hR bf o s q hn ho hb hg hq hgq) (R := E) (List.perm_append_comm.trans hp) ?_
  intro out s' h
  unfold RunP at h
  split at h
  · rename_i t e
    obtain ⟨rfl, h1, o', h2, rfl⟩ := h
    exact k1 t o' e h2 h1
  · rename_i e he
    obtain ⟨rfl, rfl⟩ := h
    rw [List.append_nil]; exact k2 e he
theorem own_c (E : St) {q : List Tree} (hl : s.left = l) (hR : RunC known bw bm ents n) (hn : s.left ≤ n) (hl2 : s.left ≤ 4096) (hq : q.length ≤ 2513169434916) (hgq : goodIs q = true)
    (k1 : ∀ i u t, ownS (runL known) q s = .ok (i, u, t) → Post (.ret (.agg [.int .i64 i, .int .i64 u])) (E ++ (WM bw bm ents t.left ++ FS bf bm bw o t))) (k2 : ∀ e, ownS (runL known) q s = .error e → Post (.panic (stopV e)) E) :
    ACalls Tryd.prog 47 [.ptr bf 0, .fz (itemAVs q) q.length false] (E ++ (WM bw bm ents l ++ FS bf bm bw o s)) Post := by
  subst hl
  refine ACalls.usep (f_own hR bf o s q hn hl2 hq hgq) (R := E) List.perm_append_comm ?_
  intro out s' h
  unfold OwnP at h
  split at h
  · rename_i i u t e
    obtain ⟨rfl, rfl⟩ := h
    exact k1 i u t e
  · rename_i e he
    obtain ⟨rfl, rfl⟩ := h
    rw [List.append_nil]; exact k2 e he
theorem apply_c (E : St) {i u : Int} (ho : okL o s) (hs : 0 ≤ s.inn ∧ s.inn ≤ 1000000 ∧ s.stk.length ≤ 1000000) (hi : i.toNat ≤ 65536) (hu : u.toNat ≤ 65536)
    (k : ∀ o', okL o' (applyS i.toNat u.toNat s) → Post (.ret (.tup [])) (E ++ (WM bw bm ents l ++ FS bf bm bw o' (applyS i.toNat u.toNat s)))) :
    ACalls Tryd.prog 35 [.ptr bf 0, .agg [.int .i64 i, .int .i64 u]] (E ++ (WM bw bm ents l ++ FS bf bm bw o s)) Post := by
  refine ACalls.usep (f_apply bf bm bw o s i u ho hs hi hu) (R := E ++ WM bw bm ents l) (permE _ _ _) ?_
  rintro out s' ⟨rfl, o', h1, rfl⟩
  rw [List.append_assoc]; exact k o' h1
end
theorem fs_app {bf bm bw bl : Nat} {s : EfS} {x : Slot} (junk : List AV) : FS bf bm bw (some (bl, [])) (pushS s x) =
    [(bf, .box [.mapr bm, .ptr bw 0, .int .i64 s.inn, .own bl (s.stk.length + 1)]), (bl, .arr 2 ((slotsC s.stk.reverse ++ junk).take (mulN s.stk.length 2) ++ slotC x) 0)] := by
  rw [app_cells]; rfl
/-- What control answers. -/
def CtlP (bf bw bm : Nat) (ents : List (AV × AV)) (o : LR) (s : EfS) (r : Option (Except Int EfS)) (out : AOut) (st : St) : Prop := match r with
  | none => out = .ret (.bool false) ∧ st = WM bw bm ents s.left ++ FS bf bm bw o s
  | some r => RunP bf bw bm ents (.bool true) r out st






set_option maxHeartbeats 4000000 in
theorem f_control {known : List UInt8 → Option (Int × Int)} {bw bm : Nat} {ents : List (AV × AV)} {n : Nat} (hk : ∀ n i o, known n = some (i, o) → 0 ≤ i ∧ i ≤ 16 ∧ 0 ≤ o ∧ o ≤ 16) (hR : RunC known bw bm ents n) (bf : Nat) (o : LR) (s : EfS) (name : List UInt8)
    (hn : s.left ≤ n) (ho : okL o s) (hb : 0 ≤ s.inn ∧ s.inn + 16 * s.left + 16 ≤ 100000 ∧ s.stk.length + 16 * s.left + 16 ≤ 100000 ∧ s.left ≤ 4096) (hg : GoodS s) :
    ACalls Tryd.prog 34 [.ptr bf 0, .str name] (WM bw bm ents s.left ++ FS bf bm bw o s) (CtlP bf bw bm ents o s (controlS (runL known) name s)) := by
  have hfs : Fine s := ⟨hb.1, by omega, by omega⟩
  have hgq : ∀ {s t : EfS} {q : List Tree}, GoodS s → quotS s = .ok (q, t) → q.length ≤ 2513169434916 ∧ goodIs q = true ∧ GoodS t ∧ Gr 1 0 s t ∧ t.left = s.left := by
    intro s t q hg h
    obtain ⟨h1, h2⟩ := quotS_gr h
    unfold quotS at h
    have hp := hg.pop
    split at h
    · rename_i l u e
      rw [e] at hp
      cases h
      exact ⟨(hp.1 q rfl).1, (hp.1 q rfl).2, hp.2, h1, h2⟩
    · cases h
  unfold controlS
  refine ACalls.of_W tb_ok (fn := Tryd.f34) (n := 183) (by kernel_rfl) rfl (by kernel_rfl) rfl rfl (by simp) (go ?_)
  refine fork (fun h1 => go ?_) (fun h1 => go ?_)
  · have h1 : name = [99, 97, 108, 108] := by simpa using h1
    rw [if_pos h1]
    refine quot_c [] ho hfs (fun q t o1 e ho1 => ?_) (fun e he => ?_)
    · obtain ⟨q1, q2, q3, q4, q5⟩ := hgq hg e
      obtain ⟨r1, r2, r3, r4⟩ := q4
      refine go ?_
      refine run_c [] (List.Perm.refl _) q5 hR (by omega) ho1 ⟨by omega, by omega, by omega, by omega⟩ q3 q1 q2 (fun u o2 e2 ho2 hg2 => ?_) (fun e2 he2 => ?_)
      · refine go ?_
        refine VRet.mk _ (VSel.refl _) ?_
        rw [e]
        show RunP bf bw bm ents (.bool true) (runL known q t) _ _
        rw [e2]
        exact ⟨rfl, hg2, o2, ho2, rfl⟩
      · refine go ?_
        refine VRet.mk [] .nil ?_
        rw [e]
        show RunP bf bw bm ents (.bool true) (runL known q t) _ _
        rw [he2]
        exact ⟨rfl, rfl⟩
    · refine go ?_
      refine VRet.mk [] .nil ?_
      rw [he]
      exact ⟨rfl, rfl⟩
  rw [if_neg (by simpa using h1)]
  refine fork (fun h2 => go ?_) (fun h2 => go ?_)
  · have h2 : name = [100, 105, 112] := by simpa using h2
    rw [if_pos h2]
    refine quot_c [] ho hfs (fun q t o1 e ho1 => ?_) (fun e he => ?_)
    · obtain ⟨q1, q2, q3, q4, q5⟩ := hgq hg e
      obtain ⟨r1, r2, r3, r4⟩ := q4
      obtain ⟨x, v, hv⟩ : ∃ x v, popS t = (x, v) := ⟨_, _, rfl⟩
      have hv1 : (popS t).1 = x := by rw [hv]
      have hv2 : (popS t).2 = v := by rw [hv]
      obtain ⟨p1, p2, p3, p4⟩ := popS_gr t
      have p5 := popS_left t
      obtain ⟨g1, g2⟩ := q3.pop
      rw [hv2] at p1 p2 p3 p4 p5 g2
      rw [hv1] at g1
      refine go ?_
      refine pop_c [] hv ho1 ⟨by omega, by omega, by omega⟩ fun o2 ho2 => ?_
      refine go ?_
      refine VAll.mk (fun b6 => go ?_)
      refine run_c [(b6, .box (slotC x))] (List.Perm.refl _) (by omega) hR (by omega) ho2 ⟨by omega, by omega, by omega, by omega⟩ g2 q1 q2 (fun u o3 e2 ho3 hg3 => ?_) (fun e2 he2 => ?_)
      · have hgr := (runL_gr hk e2).len
        obtain ⟨Ul, Ui, Uk⟩ := u
        simp only [pushS, List.length_cons] at hgr
        have hfin : RunP bf bw bm ents (.bool true) ((match runL known q v with | .error e => .error e | .ok u => .ok (pushS u x))) = RunP bf bw bm ents (.bool true) (.ok (pushS ⟨Ul, Ui, Uk⟩ x)) := by rw [e2]
        cases o3 with
        | none =>
          obtain rfl : Uk = [] := ho3 rfl
          refine go ?_
          refine VDraw.chain [7, 10] (go ?_)
          refine VAll.mk (fun b9 => go ?_)
          refine VRet.mk (WM bw bm ents Ul ++ FS bf bm bw (some (b9, [])) (pushS ⟨Ul, Ui, []⟩ x)) (.cons 2 rfl (.cons 2 rfl (.cons 2 rfl (.cons 0 rfl .nil)))) ?_
          rw [e]
          dsimp only
          rw [hv1, hv2]
          show RunP bf bw bm ents (.bool true) ((match runL known q v with | .error e => .error e | .ok u => .ok (pushS u x))) _ _
          rw [hfin]
          exact ⟨rfl, hg3.push g1, some (b9, []), (fun h => by cases h), rfl⟩
        | some y =>
          obtain ⟨b0, junk⟩ := y
          refine go ?_
          refine VDraw.chain [7, 10] (go ?_)
          refine VGd.mk ⟨rfl, Nat.zero_le _, app_len _ _, by dsimp only; omega⟩ (go ?_)
          refine VAll.mk (fun b9 => go ?_)
          refine VRet.mk (WM bw bm ents Ul ++ FS bf bm bw (some (b9, [])) (pushS ⟨Ul, Ui, Uk⟩ x)) (by rw [fs_app junk]; exact .cons 2 rfl (.cons 2 rfl (.cons 2 rfl (.cons 0 rfl .nil)))) ?_
          rw [e]
          dsimp only
          rw [hv1, hv2]
          show RunP bf bw bm ents (.bool true) ((match runL known q v with | .error e => .error e | .ok u => .ok (pushS u x))) _ _
          rw [hfin]
          exact ⟨rfl, hg3.push g1, some (b9, []), (fun h => by cases h), rfl⟩
      · refine go ?_
        refine VRet.mk [] .nil ?_
        rw [e]
        dsimp only
        rw [hv1, hv2]
        show RunP bf bw bm ents (.bool true) ((match runL known q v with | .error e => .error e | .ok u => .ok (pushS u x))) _ _
        rw [he2]
        exact ⟨rfl, rfl⟩
    · refine go ?_
      refine VRet.mk [] .nil ?_
      rw [he]
      exact ⟨rfl, rfl⟩
  rw [if_neg (by simpa using h2)]
  refine fork (fun h3 => go ?_) (fun h3 => go ?_)
  · have h3 : name = [107, 101, 101, 112] := by simpa using h3
    rw [if_pos h3]
    refine quot_c [] ho hfs (fun q t o1 e ho1 => ?_) (fun e he => ?_)
    · obtain ⟨q1, q2, q3, q4, q5⟩ := hgq hg e
      obtain ⟨r1, r2, r3, r4⟩ := q4
      obtain ⟨x, v, hv⟩ : ∃ x v, popS t = (x, v) := ⟨_, _, rfl⟩
      have hv1 : (popS t).1 = x := by rw [hv]
      have hv2 : (popS t).2 = v := by rw [hv]
      obtain ⟨p1, p2, p3, p4⟩ := popS_gr t
      have p5 := popS_left t
      obtain ⟨g1, g2⟩ := q3.pop
      rw [hv2] at p1 p2 p3 p4 p5 g2
      rw [hv1] at g1
      refine go ?_
      refine pop_c [] hv ho1 ⟨by omega, by omega, by omega⟩ fun o2 ho2 => ?_
      have gx := g2.push g1
      obtain ⟨Vl, Vi, Vk⟩ := v
      dsimp only at p1 p2 p3 p4 p5
      cases o2 with
      | none =>
        obtain rfl : Vk = [] := ho2 rfl
        refine go ?_
        refine VAll.mk (fun b8 => go ?_)
        refine VDraw.chain [7, 10] (go ?_)
        refine VAll.mk (fun bl => go ?_)
        refine run_c (o := some (bl, [])) (s := pushS ⟨Vl, Vi, []⟩ x) (l := s.left) [(b8, .box (slotC x))] (by rw [fs_app []]; exact List.perm_append_comm (l₁ := [_, _, _, _]) (l₂ := [_])) (by show Vl = _; omega) hR (by show Vl ≤ _; omega) (fun h => by cases h) (by show 0 ≤ Vi ∧ Vi + 16 * Vl ≤ 100000 ∧ ([] : List Slot).length + 1 + 16 * Vl ≤ 100000 ∧ Vl ≤ 4096; (try dsimp only [List.length_nil] at *); omega) gx q1 q2 (fun u o3 e2 ho3 hg3 => ?_) (fun e2 he2 => ?_)
        · have hgr := (runL_gr hk e2).len
          obtain ⟨Ul, Ui, Uk⟩ := u
          simp only [pushS, List.length_cons] at hgr
          have hfin : RunP bf bw bm ents (.bool true) ((match runL known q (pushS ⟨Vl, Vi, []⟩ x) with | .error e => .error e | .ok u => .ok (pushS u x))) = RunP bf bw bm ents (.bool true) (.ok (pushS ⟨Ul, Ui, Uk⟩ x)) := by rw [e2]
          cases o3 with
          | none =>
            obtain rfl : Uk = [] := ho3 rfl
            refine go ?_
            refine VDraw.chain [7, 10] (go ?_)
            refine VAll.mk (fun b9 => go ?_)
            refine VRet.mk (WM bw bm ents Ul ++ FS bf bm bw (some (b9, [])) (pushS ⟨Ul, Ui, []⟩ x)) (.cons 2 rfl (.cons 2 rfl (.cons 2 rfl (.cons 0 rfl .nil)))) ?_
            rw [e]
            dsimp only
            rw [hv1, hv2]
            show RunP bf bw bm ents (.bool true) ((match runL known q (pushS ⟨Vl, Vi, []⟩ x) with | .error e => .error e | .ok u => .ok (pushS u x))) _ _
            rw [hfin]
            exact ⟨rfl, hg3.push g1, some (b9, []), (fun h => by cases h), rfl⟩
          | some y =>
            obtain ⟨b0, junk⟩ := y
            refine go ?_
            refine VDraw.chain [7, 10] (go ?_)
            refine VGd.mk ⟨rfl, Nat.zero_le _, app_len _ _, by dsimp only; omega⟩ (go ?_)
            refine VAll.mk (fun b9 => go ?_)
            refine VRet.mk (WM bw bm ents Ul ++ FS bf bm bw (some (b9, [])) (pushS ⟨Ul, Ui, Uk⟩ x)) (by rw [fs_app junk]; exact .cons 2 rfl (.cons 2 rfl (.cons 2 rfl (.cons 0 rfl .nil)))) ?_
            rw [e]
            dsimp only
            rw [hv1, hv2]
            show RunP bf bw bm ents (.bool true) ((match runL known q (pushS ⟨Vl, Vi, []⟩ x) with | .error e => .error e | .ok u => .ok (pushS u x))) _ _
            rw [hfin]
            exact ⟨rfl, hg3.push g1, some (b9, []), (fun h => by cases h), rfl⟩
        · refine go ?_
          refine VRet.mk [] .nil ?_
          rw [e]
          dsimp only
          rw [hv1, hv2]
          show RunP bf bw bm ents (.bool true) ((match runL known q (pushS ⟨Vl, Vi, []⟩ x) with | .error e => .error e | .ok u => .ok (pushS u x))) _ _
          rw [he2]
          exact ⟨rfl, rfl⟩
      | some y =>
        obtain ⟨bo, junk⟩ := y
        refine go ?_
        refine VAll.mk (fun b8 => go ?_)
        refine VDraw.chain [7, 10] (go ?_)
        refine VGd.mk ⟨rfl, Nat.zero_le _, app_len _ _, by dsimp only; omega⟩ (go ?_)
        refine VAll.mk (fun bl => go ?_)
        refine run_c (o := some (bl, [])) (s := pushS ⟨Vl, Vi, Vk⟩ x) (l := s.left) [(b8, .box (slotC x))] (by rw [fs_app junk]; exact List.perm_append_comm (l₁ := [_, _, _, _]) (l₂ := [_])) (by show Vl = _; omega) hR (by show Vl ≤ _; omega) (fun h => by cases h) (by show 0 ≤ Vi ∧ Vi + 16 * Vl ≤ 100000 ∧ (Vk : List Slot).length + 1 + 16 * Vl ≤ 100000 ∧ Vl ≤ 4096; (try dsimp only [List.length_nil] at *); omega) gx q1 q2 (fun u o3 e2 ho3 hg3 => ?_) (fun e2 he2 => ?_)
        · have hgr := (runL_gr hk e2).len
          obtain ⟨Ul, Ui, Uk⟩ := u
          simp only [pushS, List.length_cons] at hgr
          have hfin : RunP bf bw bm ents (.bool true) ((match runL known q (pushS ⟨Vl, Vi, Vk⟩ x) with | .error e => .error e | .ok u => .ok (pushS u x))) = RunP bf bw bm ents (.bool true) (.ok (pushS ⟨Ul, Ui, Uk⟩ x)) := by rw [e2]
          cases o3 with
          | none =>
            obtain rfl : Uk = [] := ho3 rfl
            refine go ?_
            refine VDraw.chain [7, 10] (go ?_)
            refine VAll.mk (fun b9 => go ?_)
            refine VRet.mk (WM bw bm ents Ul ++ FS bf bm bw (some (b9, [])) (pushS ⟨Ul, Ui, []⟩ x)) (.cons 2 rfl (.cons 2 rfl (.cons 2 rfl (.cons 0 rfl .nil)))) ?_
            rw [e]
            dsimp only
            rw [hv1, hv2]
            show RunP bf bw bm ents (.bool true) ((match runL known q (pushS ⟨Vl, Vi, Vk⟩ x) with | .error e => .error e | .ok u => .ok (pushS u x))) _ _
            rw [hfin]
            exact ⟨rfl, hg3.push g1, some (b9, []), (fun h => by cases h), rfl⟩
          | some y =>
            obtain ⟨b0, junk⟩ := y
            refine go ?_
            refine VDraw.chain [7, 10] (go ?_)
            refine VGd.mk ⟨rfl, Nat.zero_le _, app_len _ _, by dsimp only; omega⟩ (go ?_)
            refine VAll.mk (fun b9 => go ?_)
            refine VRet.mk (WM bw bm ents Ul ++ FS bf bm bw (some (b9, [])) (pushS ⟨Ul, Ui, Uk⟩ x)) (by rw [fs_app junk]; exact .cons 2 rfl (.cons 2 rfl (.cons 2 rfl (.cons 0 rfl .nil)))) ?_
            rw [e]
            dsimp only
            rw [hv1, hv2]
            show RunP bf bw bm ents (.bool true) ((match runL known q (pushS ⟨Vl, Vi, Vk⟩ x) with | .error e => .error e | .ok u => .ok (pushS u x))) _ _
            rw [hfin]
            exact ⟨rfl, hg3.push g1, some (b9, []), (fun h => by cases h), rfl⟩
        · refine go ?_
          refine VRet.mk [] .nil ?_
          rw [e]
          dsimp only
          rw [hv1, hv2]
          show RunP bf bw bm ents (.bool true) ((match runL known q (pushS ⟨Vl, Vi, Vk⟩ x) with | .error e => .error e | .ok u => .ok (pushS u x))) _ _
          rw [he2]
          exact ⟨rfl, rfl⟩
    · refine go ?_
      refine VRet.mk [] .nil ?_
      rw [he]
      exact ⟨rfl, rfl⟩
  rw [if_neg (by simpa using h3)]
  have hrg : ∀ q s t, runL known q s = .ok t → Gr 0 0 s t := fun q s t h => runL_gr hk h
  refine fork (fun h4 => go ?_) (fun h4 => go ?_)
  · have h4 : name = [105, 102] := by simpa using h4
    rw [if_pos h4]
    refine quot_c [] ho hfs (fun b t o1 e ho1 => ?_) (fun e he => ?_)
    · obtain ⟨q1, q2, q3, q4, q5⟩ := hgq hg e
      obtain ⟨r1, r2, r3, r4⟩ := q4
      rw [e]
      dsimp only
      refine go ?_
      refine quot_c [] ho1 ⟨by omega, by omega, by omega⟩ (fun a t2 o2 e2 ho2 => ?_) (fun e2 he2 => ?_)
      · obtain ⟨a1, a2, a3, a4, a5⟩ := hgq q3 e2
        obtain ⟨b1, b2, b3, b4⟩ := a4
        rw [e2]
        dsimp only
        obtain ⟨x, v, hv⟩ : ∃ x v, popS t2 = (x, v) := ⟨_, _, rfl⟩
        have hv2 : (popS t2).2 = v := by rw [hv]
        obtain ⟨p1, p2, p3, p4⟩ := popS_gr t2
        have p5 := popS_left t2
        obtain ⟨g1, g2⟩ := a3.pop
        rw [hv2] at p1 p2 p3 p4 p5 g2 ⊢
        refine go ?_
        refine pop_c [] hv ho2 ⟨by omega, by omega, by omega⟩ fun o3 ho3 => ?_
        refine go ?_
        refine own_c (l := s.left) [] (by omega) hR (by omega) (by omega) a1 a2 (fun ai ao w ea => ?_) (fun e3 he3 => ?_)
        · obtain ⟨c1, c2, c3, c4, c5, c6⟩ := ownS_gr hrg ea
          rw [ea]
          dsimp only
          refine go ?_
          refine own_c (l := w.left) [] rfl hR (by omega) (by omega) q1 q2 (fun bi bo z eb => ?_) (fun e3 he3 => ?_)
          · obtain ⟨d1, d2, d3, d4, d5, d6⟩ := ownS_gr hrg eb
            rw [eb]
            dsimp only
            refine go ?_
            refine VAll.mk (fun b11 => go ?_)
            refine VAll.mk (fun b12 => go ?_)
            refine need_c (fun hb => ?_) (fun hb => ?_)
            · have hb : ao - ai = bo - bi := by simpa using hb
              rw [if_pos hb]
              refine go ?_
              have e1 : z.stk = v.stk := by rw [d6, c6]
              have e4 : z.inn = v.inn := by rw [d6, c6]
              have ho5 : okL o3 z := fun h => by rw [e1]; exact ho3 h
              have hg5 : GoodS z := fun y hy => g2 y (by rw [← e1]; exact hy)
              refine apply_c (l := z.left) [_, _] ho5 ⟨by omega, by omega, by rw [e1]; omega⟩ (by omega) (by omega) fun o6 ho6 => ?_
              refine go ?_
              exact VRet.mk _ (VSel.skip (VSel.skip (VSel.refl _) _) _) ⟨rfl, hg5.apply _ _, o6, ho6, by rw [applyS_left]; rfl⟩
            · have hb : ¬ ao - ai = bo - bi := by simpa using hb
              rw [if_neg hb]
              refine go ?_
              exact VRet.mk [] .nil ⟨rfl, rfl⟩
          · rw [he3]
            refine go ?_
            exact VRet.mk [] .nil ⟨rfl, rfl⟩
        · rw [he3]
          refine go ?_
          exact VRet.mk [] .nil ⟨rfl, rfl⟩
      · rw [he2]
        refine go ?_
        exact VRet.mk [] .nil ⟨rfl, rfl⟩
    · refine go ?_
      refine VRet.mk [] .nil ?_
      rw [he]
      exact ⟨rfl, rfl⟩
  rw [if_neg (by simpa using h4)]
  refine fork (fun h5 => go ?_) (fun h5 => go ?_)
  · have h5 : name = [119, 104, 101, 110] := by simpa using h5
    rw [if_pos (.inl h5)]
    refine VIf.yes (by simpa using h5) (go ?_)
    refine quot_c [] ho hfs (fun q t o1 e ho1 => ?_) (fun e he => ?_)
    · obtain ⟨q1, q2, q3, q4, q5⟩ := hgq hg e
      obtain ⟨r1, r2, r3, r4⟩ := q4
      obtain ⟨x, v, hv⟩ : ∃ x v, popS t = (x, v) := ⟨_, _, rfl⟩
      have hv1 : (popS t).1 = x := by rw [hv]
      have hv2 : (popS t).2 = v := by rw [hv]
      obtain ⟨p1, p2, p3, p4⟩ := popS_gr t
      have p5 := popS_left t
      obtain ⟨g1, g2⟩ := q3.pop
      rw [hv2] at p1 p2 p3 p4 p5 g2
      rw [hv1] at g1
      refine go ?_
      rw [e]
      dsimp only
      rw [hv2]
      refine pop_c [] hv ho1 ⟨by omega, by omega, by omega⟩ fun o3 ho3 => ?_
      refine go ?_
      refine own_c (l := s.left) [] (by omega) hR (by omega) (by omega) q1 q2 (fun ai ao w ea => ?_) (fun e3 he3 => ?_)
      · obtain ⟨c1, c2, c3, c4, c5, c6⟩ := ownS_gr hrg ea
        rw [ea]
        dsimp only
        refine go ?_
        refine VAll.mk (fun b15 => go ?_)
        refine need_c (fun hb => ?_) (fun hb => ?_)
        · have hb : ai = ao := by simpa using hb
          rw [if_pos hb]
          refine go ?_
          have e1 : w.stk = v.stk := by rw [c6]
          have e4 : w.inn = v.inn := by rw [c6]
          have ho5 : okL o3 w := fun h => by rw [e1]; exact ho3 h
          have hg5 : GoodS w := fun y hy => g2 y (by rw [← e1]; exact hy)
          refine apply_c (l := w.left) [_] ho5 ⟨by omega, by omega, by rw [e1]; omega⟩ (by omega) (by omega) fun o6 ho6 => ?_
          refine go ?_
          exact VRet.mk _ (VSel.skip (VSel.refl _) _) ⟨rfl, hg5.apply _ _, o6, ho6, by rw [applyS_left]; rfl⟩
        · have hb : ¬ ai = ao := by simpa using hb
          rw [if_neg hb]
          refine go ?_
          exact VRet.mk [] .nil ⟨rfl, rfl⟩
      · rw [he3]
        refine go ?_
        exact VRet.mk [] .nil ⟨rfl, rfl⟩
    · refine go ?_
      refine VRet.mk [] .nil ?_
      rw [he]
      exact ⟨rfl, rfl⟩
  refine fork (fun h6 => go ?_) (fun h6 => go ?_)
  · have h6 : name = [116, 105, 109, 101, 115] := by simpa using h6
    rw [if_pos (.inr h6)]
    refine quot_c [] ho hfs (fun q t o1 e ho1 => ?_) (fun e he => ?_)
    · obtain ⟨q1, q2, q3, q4, q5⟩ := hgq hg e
      obtain ⟨r1, r2, r3, r4⟩ := q4
      obtain ⟨x, v, hv⟩ : ∃ x v, popS t = (x, v) := ⟨_, _, rfl⟩
      have hv1 : (popS t).1 = x := by rw [hv]
      have hv2 : (popS t).2 = v := by rw [hv]
      obtain ⟨p1, p2, p3, p4⟩ := popS_gr t
      have p5 := popS_left t
      obtain ⟨g1, g2⟩ := q3.pop
      rw [hv2] at p1 p2 p3 p4 p5 g2
      rw [hv1] at g1
      refine go ?_
      rw [e]
      dsimp only
      rw [hv2]
      refine pop_c [] hv ho1 ⟨by omega, by omega, by omega⟩ fun o3 ho3 => ?_
      refine go ?_
      refine own_c (l := s.left) [] (by omega) hR (by omega) (by omega) q1 q2 (fun ai ao w ea => ?_) (fun e3 he3 => ?_)
      · obtain ⟨c1, c2, c3, c4, c5, c6⟩ := ownS_gr hrg ea
        rw [ea]
        dsimp only
        refine go ?_
        refine VAll.mk (fun b15 => go ?_)
        refine need_c (fun hb => ?_) (fun hb => ?_)
        · have hb : ai = ao := by simpa using hb
          rw [if_pos hb]
          refine go ?_
          have e1 : w.stk = v.stk := by rw [c6]
          have e4 : w.inn = v.inn := by rw [c6]
          have ho5 : okL o3 w := fun h => by rw [e1]; exact ho3 h
          have hg5 : GoodS w := fun y hy => g2 y (by rw [← e1]; exact hy)
          refine apply_c (l := w.left) [_] ho5 ⟨by omega, by omega, by rw [e1]; omega⟩ (by omega) (by omega) fun o6 ho6 => ?_
          refine go ?_
          exact VRet.mk _ (VSel.skip (VSel.refl _) _) ⟨rfl, hg5.apply _ _, o6, ho6, by rw [applyS_left]; rfl⟩
        · have hb : ¬ ai = ao := by simpa using hb
          rw [if_neg hb]
          refine go ?_
          exact VRet.mk [] .nil ⟨rfl, rfl⟩
      · rw [he3]
        refine go ?_
        exact VRet.mk [] .nil ⟨rfl, rfl⟩
    · refine go ?_
      refine VRet.mk [] .nil ?_
      rw [he]
      exact ⟨rfl, rfl⟩
  rw [if_neg (by rintro (h | h) <;> simp_all)]
  refine fork (fun h7 => go ?_) (fun h7 => go ?_)
  · have h7 : name = [108, 111, 111, 112] := by simpa using h7
    rw [if_pos h7]
    refine quot_c [] ho hfs (fun q t o1 e ho1 => ?_) (fun e he => ?_)
    · obtain ⟨q1, q2, q3, q4, q5⟩ := hgq hg e
      obtain ⟨r1, r2, r3, r4⟩ := q4
      rw [e]
      dsimp only
      refine go ?_
      refine own_c (l := s.left) [] (by omega) hR (by omega) (by omega) q1 q2 (fun ai ao w ea => ?_) (fun e3 he3 => ?_)
      · obtain ⟨c1, c2, c3, c4, c5, c6⟩ := ownS_gr hrg ea
        rw [ea]
        dsimp only
        refine go ?_
        refine VAll.mk (fun b15 => go ?_)
        refine need_c (fun hb => ?_) (fun hb => ?_)
        · have hb : ao = ai + 1 := by simpa using hb
          rw [if_pos hb]
          refine go ?_
          have e1 : w.stk = t.stk := by rw [c6]
          have e4 : w.inn = t.inn := by rw [c6]
          have ho5 : okL o1 w := fun h => by rw [e1]; exact ho1 h
          have hg5 : GoodS w := fun y hy => q3 y (by rw [← e1]; exact hy)
          refine apply_c (l := w.left) [_] ho5 ⟨by omega, by omega, by rw [e1]; omega⟩ (by omega) (by omega) fun o6 ho6 => ?_
          refine go ?_
          exact VRet.mk _ (VSel.skip (VSel.refl _) _) ⟨rfl, hg5.apply _ _, o6, ho6, by rw [applyS_left]; rfl⟩
        · have hb : ¬ ao = ai + 1 := by simpa using hb
          rw [if_neg hb]
          refine go ?_
          exact VRet.mk [] .nil ⟨rfl, rfl⟩
      · rw [he3]
        refine go ?_
        exact VRet.mk [] .nil ⟨rfl, rfl⟩
    · refine go ?_
      refine VRet.mk [] .nil ?_
      rw [he]
      exact ⟨rfl, rfl⟩
  rw [if_neg (by simpa using h7)]
  refine fork (fun h8 => go ?_) (fun h8 => go ?_)
  · have h8 : name = [101, 97, 99, 104] := by simpa using h8
    rw [if_pos h8]
    refine quot_c [] ho hfs (fun q t o1 e ho1 => ?_) (fun e he => ?_)
    · obtain ⟨q1, q2, q3, q4, q5⟩ := hgq hg e
      obtain ⟨r1, r2, r3, r4⟩ := q4
      obtain ⟨x, v, hv⟩ : ∃ x v, popS t = (x, v) := ⟨_, _, rfl⟩
      have hv1 : (popS t).1 = x := by rw [hv]
      have hv2 : (popS t).2 = v := by rw [hv]
      obtain ⟨p1, p2, p3, p4⟩ := popS_gr t
      have p5 := popS_left t
      obtain ⟨g1, g2⟩ := q3.pop
      rw [hv2] at p1 p2 p3 p4 p5 g2
      rw [hv1] at g1
      refine go ?_
      rw [e]
      dsimp only
      rw [hv2]
      refine pop_c [] hv ho1 ⟨by omega, by omega, by omega⟩ fun o3 ho3 => ?_
      refine go ?_
      refine own_c (l := s.left) [] (by omega) hR (by omega) (by omega) q1 q2 (fun ai ao w ea => ?_) (fun e3 he3 => ?_)
      · obtain ⟨c1, c2, c3, c4, c5, c6⟩ := ownS_gr hrg ea
        rw [ea]
        dsimp only
        refine go ?_
        refine VAll.mk (fun b15 => go ?_)
        refine fork (fun hai => go ?_) (fun hai => go ?_)
        · have hai : 1 ≤ ai := by simpa using hai
          refine need_c (fun hb => ?_) (fun hb => ?_)
          · have hb : ao = ai - 1 := by simpa using hb
            rw [if_pos ⟨hai, hb⟩]
            refine go ?_
            have e1 : w.stk = v.stk := by rw [c6]
            have e4 : w.inn = v.inn := by rw [c6]
            have ho5 : okL o3 w := fun h => by rw [e1]; exact ho3 h
            have hg5 : GoodS w := fun y hy => g2 y (by rw [← e1]; exact hy)
            refine apply_c (l := w.left) [_] ho5 ⟨by omega, by omega, by rw [e1]; omega⟩ (by omega) (by omega) fun o6 ho6 => ?_
            refine go ?_
            exact VRet.mk _ (VSel.skip (VSel.refl _) _) ⟨rfl, hg5.apply _ _, o6, ho6, by rw [applyS_left]; rfl⟩
          · have hb : ¬ ao = ai - 1 := by simpa using hb
            rw [if_neg (fun h => hb h.2)]
            refine go ?_
            exact VRet.mk [] .nil ⟨rfl, rfl⟩
        · have hai : ¬ 1 ≤ ai := by simpa using hai
          refine need_c (fun hb => by cases hb) (fun hb => ?_)
          rw [if_neg (fun h => hai h.1)]
          refine go ?_
          exact VRet.mk [] .nil ⟨rfl, rfl⟩
      · rw [he3]
        refine go ?_
        exact VRet.mk [] .nil ⟨rfl, rfl⟩
    · refine go ?_
      refine VRet.mk [] .nil ?_
      rw [he]
      exact ⟨rfl, rfl⟩
  rw [if_neg (by simpa using h8)]
  exact VRet.mk _ (VSel.refl _) ⟨rfl, rfl⟩
end Go.Proofs.YtliabblchkgclaaDoor

namespace Go.Proofs.YtliabblchkgclaaDoor
open Go Go.Av
theorem pop_use2 {bf bm bw : Nat} {o : LR} {s : EfS} {x y : Nat × AObj} {Post : AOut → St → Prop} (ho : okL o s) (hs : Fine s)
    (k : ∀ o', okL o' (popS s).2 → Post (.ret (.agg (slotC (popS s).1))) (x :: y :: FS bf bm bw o' (popS s).2)) : ACalls Tryd.prog 45 [.ptr bf 0] (x :: y :: FS bf bm bw o s) Post :=
  pop_use (R := [x, y]) ho hs List.perm_append_comm k
theorem slotsC_at {P : List Slot} {i : Nat} {x : Slot} (h : P[i]? = some x) : (List.drop (mulN i 2) (slotsC P)).take 2 = slotC x := by
  rw [mulN_eq]
  induction P generalizing i with
  | nil => simp at h
  | cons y r ih =>
    cases i with
    | zero => simp at h; subst h; rfl
    | succ i =>
      have h : r[i]? = some x := by simpa using h
      rw [show (i + 1) * 2 = i * 2 + 1 + 1 by omega]
      exact ih h
def pushL (P : List Slot) (ks : List Nat) (s : EfS) : EfS := ks.foldl (fun t k => pushS t (P.getD k none)) s
theorem pushL_next {P : List Slot} {ks : List Nat} {j k : Nat} (h : ks[j]? = some k) (s : EfS) : pushL P (ks.take (j + 1)) s = pushS (pushL P (ks.take j) s) (P.getD k none) := by
  rw [take_succ_at h, pushL, List.foldl_append]; rfl
theorem pushL_len (P : List Slot) (ks : List Nat) (s : EfS) : (pushL P ks s).stk.length = s.stk.length + ks.length := by
  unfold pushL
  induction ks generalizing s with
  | nil => rfl
  | cons k ks ih => rw [List.foldl_cons, ih]; simp [pushS]; omega

def MoveC (bf bm bw : Nat) (o : LR) (s : EfS) (name : List UInt8) (k : Nat) (ks : List Nat) : Prop :=
    ACalls Tryd.prog 33 [.ptr bf 0, .str name] (FS bf bm bw o s) fun out st' => out = .ret (.tup []) ∧ ∃ o', okL o' (movesS k ks s) ∧ st' = FS bf bm bw o' (movesS k ks s)
theorem f_move_dup (bf bm bw : Nat) (o : LR) (s : EfS) (ho : okL o s) (hs : 0 ≤ s.inn ∧ s.inn ≤ 1000000 ∧ s.stk.length ≤ 1000000) : MoveC bf bm bw o s [100, 117, 112] 1 [0, 0] := by
  have hP := f_Prim [100, 117, 112]
  have hF0 := Fine.pops hs (show 0 ≤ 65536 by omega)
  have hF1 := Fine.pops hs (show 1 ≤ 65536 by omega)
  have hF2 := Fine.pops hs (show 2 ≤ 65536 by omega)
  have hF3 := Fine.pops hs (show 3 ≤ 65536 by omega)
  rw [show primR [100, 117, 112] = some (1, 2) by decide] at hP
  have hP : Av.Fn Tryd.prog 16 [.str [100, 117, 112]] (.tup [.agg [.int .i64 1, .int .i64 2], .bool true]) := hP
  unfold MoveC
  refine ACalls.of_W tb_ok (fn := Tryd.f33) (n := 60) (by kernel_rfl) rfl (by kernel_rfl) rfl rfl (by simp) (go ?_)
  refine Fn.use (hP) (go ?_)
  refine VAll.mk (fun b => go ?_)
  refine VAll.mk (fun bl => go ?_)
  refine VLoop.un 5 [7] (go ?_)
  refine pop_use2 ho hF0 fun o1 ho1 => ?_
  refine go ?_
  refine VGd.mk ⟨Nat.le_of_ble_eq_true rfl, Nat.le_of_ble_eq_true rfl⟩ (go ?_)
  refine VAll.mk (fun bmv => go ?_)
  repeat (refine VMap.mk _ rfl (go ?_))
  have hst : ((popS s).2).stk.length ≤ 2000000 := hF1.2.2
  have hfin : pushL [(popS s).1] [0, 0] (popS s).2 = movesS 1 [0, 0] s := rfl
  generalize (popS s).2 = T at ho1 hst hfin ⊢
  obtain ⟨Tl, Ti, Tk⟩ := T
  refine VLoop.mk [42] (Nat × LR) (fun i => [.int .i64 i.1]) (fun i => (bl, .arr 2 (slotsC [(popS s).1]) 0) :: FS bf bm bw i.2 (pushL [(popS s).1] (([0, 0] : List Nat).take i.1) ⟨Tl, Ti, Tk⟩)) (fun i => i.1 ≤ ([0, 0] : List Nat).length ∧ okL i.2 (pushL [(popS s).1] (([0, 0] : List Nat).take i.1) ⟨Tl, Ti, Tk⟩)) (fun i => ([0, 0] : List Nat).length - i.1) (0, o1) ?_ ?_
  · exact ⟨⟨Nat.zero_le _, ho1⟩, rfl, .cons 1 rfl (VSel.skip (VSel.skip (VSel.refl _) _) _)⟩
  rintro ⟨j, oj⟩ ⟨hj, hoj⟩
  dsimp only at hj hoj hst ⊢
  refine go ?_
  refine fork (fun hlt => go ?_) (fun hlt => go ?_)
  · have hlt : j < ([0, 0] : List Nat).length := by simp at hlt ⊢; omega
    have hc : j = 0 ∨ j = 1 ∨ j = 2 := by simp at hlt; omega
    have hpl : ∀ i, (pushL [(popS s).1] (([0, 0] : List Nat).take i) ⟨Tl, Ti, Tk⟩).stk.length ≤ 2000003 := fun i => by
      have h1 := List.length_take_le' i ([0, 0] : List Nat)
      have h2 : ([0, 0] : List Nat).length ≤ 3 := by decide
      rw [pushL_len]
      show Tk.length + _ ≤ _
      omega
    rcases hc with rfl | rfl | rfl
    all_goals first
      | (exfalso; simp at hlt; done)
      | skip
    all_goals refine go ?_
    all_goals refine VDraw.chain [10, 13] (go ?_)
    all_goals
      cases oj with
      | none =>
        have h0 := hoj rfl
        first
        | (exfalso; revert h0; simp [pushL, pushS]; done)
        | (obtain rfl : Tk = [] := h0
           refine go ?_
           refine VAll.mk (fun b2 => go ?_)
           exact ⟨(1, some (b2, [])), ⟨by simp, fun h => by cases h⟩, by simp, rfl, .cons 1 rfl (.cons 1 rfl (.cons 0 rfl .nil))⟩)
      | some x =>
        obtain ⟨bo, junk⟩ := x
        refine go ?_
        refine VGd.mk ⟨rfl, Nat.zero_le _, app_len _ _, Nat.le_trans (Nat.mul_le_mul_left _ (Nat.succ_le_succ (hpl _))) (Nat.le_of_ble_eq_true rfl)⟩ (go ?_)
        refine VAll.mk (fun b2 => go ?_)
        exact ⟨(_, some (b2, [])), ⟨by simp, fun h => by cases h⟩, by simp, rfl, .cons 1 rfl (.cons 1 rfl (.cons 0 (congrArg (fun c => some (b2, AObj.arr 2 c 0)) (app_cells _ _ _)) .nil))⟩
  · have hj2 : j = ([0, 0] : List Nat).length := by simp at hlt hj ⊢; omega
    subst hj2
    have hfin : pushL [(popS s).1] (([0, 0] : List Nat).take ([0, 0] : List Nat).length) ⟨Tl, Ti, Tk⟩ = movesS 1 [0, 0] s := hfin
    rw [hfin] at hoj ⊢
    exact VRet.mk _ (VSel.skip (VSel.refl _) _) ⟨rfl, oj, hoj, rfl⟩
theorem f_move_drop (bf bm bw : Nat) (o : LR) (s : EfS) (ho : okL o s) (hs : 0 ≤ s.inn ∧ s.inn ≤ 1000000 ∧ s.stk.length ≤ 1000000) : MoveC bf bm bw o s [100, 114, 111, 112] 1 [] := by
  have hP := f_Prim [100, 114, 111, 112]
  have hF0 := Fine.pops hs (show 0 ≤ 65536 by omega)
  have hF1 := Fine.pops hs (show 1 ≤ 65536 by omega)
  have hF2 := Fine.pops hs (show 2 ≤ 65536 by omega)
  have hF3 := Fine.pops hs (show 3 ≤ 65536 by omega)
  rw [show primR [100, 114, 111, 112] = some (1, 0) by decide] at hP
  have hP : Av.Fn Tryd.prog 16 [.str [100, 114, 111, 112]] (.tup [.agg [.int .i64 1, .int .i64 0], .bool true]) := hP
  unfold MoveC
  refine ACalls.of_W tb_ok (fn := Tryd.f33) (n := 60) (by kernel_rfl) rfl (by kernel_rfl) rfl rfl (by simp) (go ?_)
  refine Fn.use (hP) (go ?_)
  refine VAll.mk (fun b => go ?_)
  refine VAll.mk (fun bl => go ?_)
  refine VLoop.un 5 [7] (go ?_)
  refine pop_use2 ho hF0 fun o1 ho1 => ?_
  refine go ?_
  refine VGd.mk ⟨Nat.le_of_ble_eq_true rfl, Nat.le_of_ble_eq_true rfl⟩ (go ?_)
  refine VAll.mk (fun bmv => go ?_)
  repeat (refine VMap.mk _ rfl (go ?_))
  refine VLoop.un 2 [42] (go ?_)
  exact VRet.mk _ (VSel.skip (VSel.skip (VSel.skip (VSel.refl _) _) _) _) ⟨rfl, o1, ho1, rfl⟩
theorem f_move_swap (bf bm bw : Nat) (o : LR) (s : EfS) (ho : okL o s) (hs : 0 ≤ s.inn ∧ s.inn ≤ 1000000 ∧ s.stk.length ≤ 1000000) : MoveC bf bm bw o s [115, 119, 97, 112] 2 [1, 0] := by
  have hP := f_Prim [115, 119, 97, 112]
  have hF0 := Fine.pops hs (show 0 ≤ 65536 by omega)
  have hF1 := Fine.pops hs (show 1 ≤ 65536 by omega)
  have hF2 := Fine.pops hs (show 2 ≤ 65536 by omega)
  have hF3 := Fine.pops hs (show 3 ≤ 65536 by omega)
  rw [show primR [115, 119, 97, 112] = some (2, 2) by decide] at hP
  have hP : Av.Fn Tryd.prog 16 [.str [115, 119, 97, 112]] (.tup [.agg [.int .i64 2, .int .i64 2], .bool true]) := hP
  unfold MoveC
  refine ACalls.of_W tb_ok (fn := Tryd.f33) (n := 60) (by kernel_rfl) rfl (by kernel_rfl) rfl rfl (by simp) (go ?_)
  refine Fn.use (hP) (go ?_)
  refine VAll.mk (fun b => go ?_)
  refine VAll.mk (fun bl => go ?_)
  refine VLoop.un 5 [7] (go ?_)
  refine pop_use2 ho hF0 fun o1 ho1 => ?_
  refine go ?_
  refine VGd.mk ⟨Nat.le_of_ble_eq_true rfl, Nat.le_of_ble_eq_true rfl⟩ (go ?_)
  refine pop_use2 ho1 hF1 fun o1 ho1 => ?_
  refine go ?_
  refine VGd.mk ⟨Nat.le_of_ble_eq_true rfl, Nat.le_of_ble_eq_true rfl⟩ (go ?_)
  refine VAll.mk (fun bmv => go ?_)
  repeat (refine VMap.mk _ rfl (go ?_))
  have hst : ((popS (popS s).2).2).stk.length ≤ 2000000 := hF2.2.2
  have hfin : pushL [(popS (popS s).2).1, (popS s).1] [1, 0] (popS (popS s).2).2 = movesS 2 [1, 0] s := rfl
  generalize (popS (popS s).2).2 = T at ho1 hst hfin ⊢
  obtain ⟨Tl, Ti, Tk⟩ := T
  refine VLoop.mk [42] (Nat × LR) (fun i => [.int .i64 i.1]) (fun i => (bl, .arr 2 (slotsC [(popS (popS s).2).1, (popS s).1]) 0) :: FS bf bm bw i.2 (pushL [(popS (popS s).2).1, (popS s).1] (([1, 0] : List Nat).take i.1) ⟨Tl, Ti, Tk⟩)) (fun i => i.1 ≤ ([1, 0] : List Nat).length ∧ okL i.2 (pushL [(popS (popS s).2).1, (popS s).1] (([1, 0] : List Nat).take i.1) ⟨Tl, Ti, Tk⟩)) (fun i => ([1, 0] : List Nat).length - i.1) (0, o1) ?_ ?_
  · exact ⟨⟨Nat.zero_le _, ho1⟩, rfl, .cons 1 rfl (VSel.skip (VSel.skip (VSel.refl _) _) _)⟩
  rintro ⟨j, oj⟩ ⟨hj, hoj⟩
  dsimp only at hj hoj hst ⊢
  refine go ?_
  refine fork (fun hlt => go ?_) (fun hlt => go ?_)
  · have hlt : j < ([1, 0] : List Nat).length := by simp at hlt ⊢; omega
    have hc : j = 0 ∨ j = 1 ∨ j = 2 := by simp at hlt; omega
    have hpl : ∀ i, (pushL [(popS (popS s).2).1, (popS s).1] (([1, 0] : List Nat).take i) ⟨Tl, Ti, Tk⟩).stk.length ≤ 2000003 := fun i => by
      have h1 := List.length_take_le' i ([1, 0] : List Nat)
      have h2 : ([1, 0] : List Nat).length ≤ 3 := by decide
      rw [pushL_len]
      show Tk.length + _ ≤ _
      omega
    rcases hc with rfl | rfl | rfl
    all_goals first
      | (exfalso; simp at hlt; done)
      | skip
    all_goals refine go ?_
    all_goals refine VDraw.chain [10, 13] (go ?_)
    all_goals
      cases oj with
      | none =>
        have h0 := hoj rfl
        first
        | (exfalso; revert h0; simp [pushL, pushS]; done)
        | (obtain rfl : Tk = [] := h0
           refine go ?_
           refine VAll.mk (fun b2 => go ?_)
           exact ⟨(1, some (b2, [])), ⟨by simp, fun h => by cases h⟩, by simp, rfl, .cons 1 rfl (.cons 1 rfl (.cons 0 rfl .nil))⟩)
      | some x =>
        obtain ⟨bo, junk⟩ := x
        refine go ?_
        refine VGd.mk ⟨rfl, Nat.zero_le _, app_len _ _, Nat.le_trans (Nat.mul_le_mul_left _ (Nat.succ_le_succ (hpl _))) (Nat.le_of_ble_eq_true rfl)⟩ (go ?_)
        refine VAll.mk (fun b2 => go ?_)
        exact ⟨(_, some (b2, [])), ⟨by simp, fun h => by cases h⟩, by simp, rfl, .cons 1 rfl (.cons 1 rfl (.cons 0 (congrArg (fun c => some (b2, AObj.arr 2 c 0)) (app_cells _ _ _)) .nil))⟩
  · have hj2 : j = ([1, 0] : List Nat).length := by simp at hlt hj ⊢; omega
    subst hj2
    have hfin : pushL [(popS (popS s).2).1, (popS s).1] (([1, 0] : List Nat).take ([1, 0] : List Nat).length) ⟨Tl, Ti, Tk⟩ = movesS 2 [1, 0] s := hfin
    rw [hfin] at hoj ⊢
    exact VRet.mk _ (VSel.skip (VSel.refl _) _) ⟨rfl, oj, hoj, rfl⟩
theorem f_move_over (bf bm bw : Nat) (o : LR) (s : EfS) (ho : okL o s) (hs : 0 ≤ s.inn ∧ s.inn ≤ 1000000 ∧ s.stk.length ≤ 1000000) : MoveC bf bm bw o s [111, 118, 101, 114] 2 [0, 1, 0] := by
  have hP := f_Prim [111, 118, 101, 114]
  have hF0 := Fine.pops hs (show 0 ≤ 65536 by omega)
  have hF1 := Fine.pops hs (show 1 ≤ 65536 by omega)
  have hF2 := Fine.pops hs (show 2 ≤ 65536 by omega)
  have hF3 := Fine.pops hs (show 3 ≤ 65536 by omega)
  rw [show primR [111, 118, 101, 114] = some (2, 3) by decide] at hP
  have hP : Av.Fn Tryd.prog 16 [.str [111, 118, 101, 114]] (.tup [.agg [.int .i64 2, .int .i64 3], .bool true]) := hP
  unfold MoveC
  refine ACalls.of_W tb_ok (fn := Tryd.f33) (n := 60) (by kernel_rfl) rfl (by kernel_rfl) rfl rfl (by simp) (go ?_)
  refine Fn.use (hP) (go ?_)
  refine VAll.mk (fun b => go ?_)
  refine VAll.mk (fun bl => go ?_)
  refine VLoop.un 5 [7] (go ?_)
  refine pop_use2 ho hF0 fun o1 ho1 => ?_
  refine go ?_
  refine VGd.mk ⟨Nat.le_of_ble_eq_true rfl, Nat.le_of_ble_eq_true rfl⟩ (go ?_)
  refine pop_use2 ho1 hF1 fun o1 ho1 => ?_
  refine go ?_
  refine VGd.mk ⟨Nat.le_of_ble_eq_true rfl, Nat.le_of_ble_eq_true rfl⟩ (go ?_)
  refine VAll.mk (fun bmv => go ?_)
  repeat (refine VMap.mk _ rfl (go ?_))
  have hst : ((popS (popS s).2).2).stk.length ≤ 2000000 := hF2.2.2
  have hfin : pushL [(popS (popS s).2).1, (popS s).1] [0, 1, 0] (popS (popS s).2).2 = movesS 2 [0, 1, 0] s := rfl
  generalize (popS (popS s).2).2 = T at ho1 hst hfin ⊢
  obtain ⟨Tl, Ti, Tk⟩ := T
  refine VLoop.mk [42] (Nat × LR) (fun i => [.int .i64 i.1]) (fun i => (bl, .arr 2 (slotsC [(popS (popS s).2).1, (popS s).1]) 0) :: FS bf bm bw i.2 (pushL [(popS (popS s).2).1, (popS s).1] (([0, 1, 0] : List Nat).take i.1) ⟨Tl, Ti, Tk⟩)) (fun i => i.1 ≤ ([0, 1, 0] : List Nat).length ∧ okL i.2 (pushL [(popS (popS s).2).1, (popS s).1] (([0, 1, 0] : List Nat).take i.1) ⟨Tl, Ti, Tk⟩)) (fun i => ([0, 1, 0] : List Nat).length - i.1) (0, o1) ?_ ?_
  · exact ⟨⟨Nat.zero_le _, ho1⟩, rfl, .cons 1 rfl (VSel.skip (VSel.skip (VSel.refl _) _) _)⟩
  rintro ⟨j, oj⟩ ⟨hj, hoj⟩
  dsimp only at hj hoj hst ⊢
  refine go ?_
  refine fork (fun hlt => go ?_) (fun hlt => go ?_)
  · have hlt : j < ([0, 1, 0] : List Nat).length := by simp at hlt ⊢; omega
    have hc : j = 0 ∨ j = 1 ∨ j = 2 := by simp at hlt; omega
    have hpl : ∀ i, (pushL [(popS (popS s).2).1, (popS s).1] (([0, 1, 0] : List Nat).take i) ⟨Tl, Ti, Tk⟩).stk.length ≤ 2000003 := fun i => by
      have h1 := List.length_take_le' i ([0, 1, 0] : List Nat)
      have h2 : ([0, 1, 0] : List Nat).length ≤ 3 := by decide
      rw [pushL_len]
      show Tk.length + _ ≤ _
      omega
    rcases hc with rfl | rfl | rfl
    all_goals first
      | (exfalso; simp at hlt; done)
      | skip
    all_goals refine go ?_
    all_goals refine VDraw.chain [10, 13] (go ?_)
    all_goals
      cases oj with
      | none =>
        have h0 := hoj rfl
        first
        | (exfalso; revert h0; simp [pushL, pushS]; done)
        | (obtain rfl : Tk = [] := h0
           refine go ?_
           refine VAll.mk (fun b2 => go ?_)
           exact ⟨(1, some (b2, [])), ⟨by simp, fun h => by cases h⟩, by simp, rfl, .cons 1 rfl (.cons 1 rfl (.cons 0 rfl .nil))⟩)
      | some x =>
        obtain ⟨bo, junk⟩ := x
        refine go ?_
        refine VGd.mk ⟨rfl, Nat.zero_le _, app_len _ _, Nat.le_trans (Nat.mul_le_mul_left _ (Nat.succ_le_succ (hpl _))) (Nat.le_of_ble_eq_true rfl)⟩ (go ?_)
        refine VAll.mk (fun b2 => go ?_)
        exact ⟨(_, some (b2, [])), ⟨by simp, fun h => by cases h⟩, by simp, rfl, .cons 1 rfl (.cons 1 rfl (.cons 0 (congrArg (fun c => some (b2, AObj.arr 2 c 0)) (app_cells _ _ _)) .nil))⟩
  · have hj2 : j = ([0, 1, 0] : List Nat).length := by simp at hlt hj ⊢; omega
    subst hj2
    have hfin : pushL [(popS (popS s).2).1, (popS s).1] (([0, 1, 0] : List Nat).take ([0, 1, 0] : List Nat).length) ⟨Tl, Ti, Tk⟩ = movesS 2 [0, 1, 0] s := hfin
    rw [hfin] at hoj ⊢
    exact VRet.mk _ (VSel.skip (VSel.refl _) _) ⟨rfl, oj, hoj, rfl⟩
theorem f_move_rot (bf bm bw : Nat) (o : LR) (s : EfS) (ho : okL o s) (hs : 0 ≤ s.inn ∧ s.inn ≤ 1000000 ∧ s.stk.length ≤ 1000000) : MoveC bf bm bw o s [114, 111, 116] 3 [1, 2, 0] := by
  have hP := f_Prim [114, 111, 116]
  have hF0 := Fine.pops hs (show 0 ≤ 65536 by omega)
  have hF1 := Fine.pops hs (show 1 ≤ 65536 by omega)
  have hF2 := Fine.pops hs (show 2 ≤ 65536 by omega)
  have hF3 := Fine.pops hs (show 3 ≤ 65536 by omega)
  rw [show primR [114, 111, 116] = some (3, 3) by decide] at hP
  have hP : Av.Fn Tryd.prog 16 [.str [114, 111, 116]] (.tup [.agg [.int .i64 3, .int .i64 3], .bool true]) := hP
  unfold MoveC
  refine ACalls.of_W tb_ok (fn := Tryd.f33) (n := 60) (by kernel_rfl) rfl (by kernel_rfl) rfl rfl (by simp) (go ?_)
  refine Fn.use (hP) (go ?_)
  refine VAll.mk (fun b => go ?_)
  refine VAll.mk (fun bl => go ?_)
  refine VLoop.un 5 [7] (go ?_)
  refine pop_use2 ho hF0 fun o1 ho1 => ?_
  refine go ?_
  refine VGd.mk ⟨Nat.le_of_ble_eq_true rfl, Nat.le_of_ble_eq_true rfl⟩ (go ?_)
  refine pop_use2 ho1 hF1 fun o1 ho1 => ?_
  refine go ?_
  refine VGd.mk ⟨Nat.le_of_ble_eq_true rfl, Nat.le_of_ble_eq_true rfl⟩ (go ?_)
  refine pop_use2 ho1 hF2 fun o1 ho1 => ?_
  refine go ?_
  refine VGd.mk ⟨Nat.le_of_ble_eq_true rfl, Nat.le_of_ble_eq_true rfl⟩ (go ?_)
  refine VAll.mk (fun bmv => go ?_)
  repeat (refine VMap.mk _ rfl (go ?_))
  have hst : ((popS (popS (popS s).2).2).2).stk.length ≤ 2000000 := hF3.2.2
  have hfin : pushL [(popS (popS (popS s).2).2).1, (popS (popS s).2).1, (popS s).1] [1, 2, 0] (popS (popS (popS s).2).2).2 = movesS 3 [1, 2, 0] s := rfl
  generalize (popS (popS (popS s).2).2).2 = T at ho1 hst hfin ⊢
  obtain ⟨Tl, Ti, Tk⟩ := T
  refine VLoop.mk [42] (Nat × LR) (fun i => [.int .i64 i.1]) (fun i => (bl, .arr 2 (slotsC [(popS (popS (popS s).2).2).1, (popS (popS s).2).1, (popS s).1]) 0) :: FS bf bm bw i.2 (pushL [(popS (popS (popS s).2).2).1, (popS (popS s).2).1, (popS s).1] (([1, 2, 0] : List Nat).take i.1) ⟨Tl, Ti, Tk⟩)) (fun i => i.1 ≤ ([1, 2, 0] : List Nat).length ∧ okL i.2 (pushL [(popS (popS (popS s).2).2).1, (popS (popS s).2).1, (popS s).1] (([1, 2, 0] : List Nat).take i.1) ⟨Tl, Ti, Tk⟩)) (fun i => ([1, 2, 0] : List Nat).length - i.1) (0, o1) ?_ ?_
  · exact ⟨⟨Nat.zero_le _, ho1⟩, rfl, .cons 1 rfl (VSel.skip (VSel.skip (VSel.refl _) _) _)⟩
  rintro ⟨j, oj⟩ ⟨hj, hoj⟩
  dsimp only at hj hoj hst ⊢
  refine go ?_
  refine fork (fun hlt => go ?_) (fun hlt => go ?_)
  · have hlt : j < ([1, 2, 0] : List Nat).length := by simp at hlt ⊢; omega
    have hc : j = 0 ∨ j = 1 ∨ j = 2 := by simp at hlt; omega
    have hpl : ∀ i, (pushL [(popS (popS (popS s).2).2).1, (popS (popS s).2).1, (popS s).1] (([1, 2, 0] : List Nat).take i) ⟨Tl, Ti, Tk⟩).stk.length ≤ 2000003 := fun i => by
      have h1 := List.length_take_le' i ([1, 2, 0] : List Nat)
      have h2 : ([1, 2, 0] : List Nat).length ≤ 3 := by decide
      rw [pushL_len]
      show Tk.length + _ ≤ _
      omega
    rcases hc with rfl | rfl | rfl
    all_goals first
      | (exfalso; simp at hlt; done)
      | skip
    all_goals refine go ?_
    all_goals refine VDraw.chain [10, 13] (go ?_)
    all_goals
      cases oj with
      | none =>
        have h0 := hoj rfl
        first
        | (exfalso; revert h0; simp [pushL, pushS]; done)
        | (obtain rfl : Tk = [] := h0
           refine go ?_
           refine VAll.mk (fun b2 => go ?_)
           exact ⟨(1, some (b2, [])), ⟨by simp, fun h => by cases h⟩, by simp, rfl, .cons 1 rfl (.cons 1 rfl (.cons 0 rfl .nil))⟩)
      | some x =>
        obtain ⟨bo, junk⟩ := x
        refine go ?_
        refine VGd.mk ⟨rfl, Nat.zero_le _, app_len _ _, Nat.le_trans (Nat.mul_le_mul_left _ (Nat.succ_le_succ (hpl _))) (Nat.le_of_ble_eq_true rfl)⟩ (go ?_)
        refine VAll.mk (fun b2 => go ?_)
        exact ⟨(_, some (b2, [])), ⟨by simp, fun h => by cases h⟩, by simp, rfl, .cons 1 rfl (.cons 1 rfl (.cons 0 (congrArg (fun c => some (b2, AObj.arr 2 c 0)) (app_cells _ _ _)) .nil))⟩
  · have hj2 : j = ([1, 2, 0] : List Nat).length := by simp at hlt hj ⊢; omega
    subst hj2
    have hfin : pushL [(popS (popS (popS s).2).2).1, (popS (popS s).2).1, (popS s).1] (([1, 2, 0] : List Nat).take ([1, 2, 0] : List Nat).length) ⟨Tl, Ti, Tk⟩ = movesS 3 [1, 2, 0] s := hfin
    rw [hfin] at hoj ⊢
    exact VRet.mk _ (VSel.skip (VSel.refl _) _) ⟨rfl, oj, hoj, rfl⟩
theorem f_move_nip (bf bm bw : Nat) (o : LR) (s : EfS) (ho : okL o s) (hs : 0 ≤ s.inn ∧ s.inn ≤ 1000000 ∧ s.stk.length ≤ 1000000) : MoveC bf bm bw o s [110, 105, 112] 2 [1] := by
  have hP := f_Prim [110, 105, 112]
  have hF0 := Fine.pops hs (show 0 ≤ 65536 by omega)
  have hF1 := Fine.pops hs (show 1 ≤ 65536 by omega)
  have hF2 := Fine.pops hs (show 2 ≤ 65536 by omega)
  have hF3 := Fine.pops hs (show 3 ≤ 65536 by omega)
  rw [show primR [110, 105, 112] = some (2, 1) by decide] at hP
  have hP : Av.Fn Tryd.prog 16 [.str [110, 105, 112]] (.tup [.agg [.int .i64 2, .int .i64 1], .bool true]) := hP
  unfold MoveC
  refine ACalls.of_W tb_ok (fn := Tryd.f33) (n := 60) (by kernel_rfl) rfl (by kernel_rfl) rfl rfl (by simp) (go ?_)
  refine Fn.use (hP) (go ?_)
  refine VAll.mk (fun b => go ?_)
  refine VAll.mk (fun bl => go ?_)
  refine VLoop.un 5 [7] (go ?_)
  refine pop_use2 ho hF0 fun o1 ho1 => ?_
  refine go ?_
  refine VGd.mk ⟨Nat.le_of_ble_eq_true rfl, Nat.le_of_ble_eq_true rfl⟩ (go ?_)
  refine pop_use2 ho1 hF1 fun o1 ho1 => ?_
  refine go ?_
  refine VGd.mk ⟨Nat.le_of_ble_eq_true rfl, Nat.le_of_ble_eq_true rfl⟩ (go ?_)
  refine VAll.mk (fun bmv => go ?_)
  repeat (refine VMap.mk _ rfl (go ?_))
  have hst : ((popS (popS s).2).2).stk.length ≤ 2000000 := hF2.2.2
  have hfin : pushL [(popS (popS s).2).1, (popS s).1] [1] (popS (popS s).2).2 = movesS 2 [1] s := rfl
  generalize (popS (popS s).2).2 = T at ho1 hst hfin ⊢
  obtain ⟨Tl, Ti, Tk⟩ := T
  refine VLoop.mk [42] (Nat × LR) (fun i => [.int .i64 i.1]) (fun i => (bl, .arr 2 (slotsC [(popS (popS s).2).1, (popS s).1]) 0) :: FS bf bm bw i.2 (pushL [(popS (popS s).2).1, (popS s).1] (([1] : List Nat).take i.1) ⟨Tl, Ti, Tk⟩)) (fun i => i.1 ≤ ([1] : List Nat).length ∧ okL i.2 (pushL [(popS (popS s).2).1, (popS s).1] (([1] : List Nat).take i.1) ⟨Tl, Ti, Tk⟩)) (fun i => ([1] : List Nat).length - i.1) (0, o1) ?_ ?_
  · exact ⟨⟨Nat.zero_le _, ho1⟩, rfl, .cons 1 rfl (VSel.skip (VSel.skip (VSel.refl _) _) _)⟩
  rintro ⟨j, oj⟩ ⟨hj, hoj⟩
  dsimp only at hj hoj hst ⊢
  refine go ?_
  refine fork (fun hlt => go ?_) (fun hlt => go ?_)
  · have hlt : j < ([1] : List Nat).length := by simp at hlt ⊢; omega
    have hc : j = 0 ∨ j = 1 ∨ j = 2 := by simp at hlt; omega
    have hpl : ∀ i, (pushL [(popS (popS s).2).1, (popS s).1] (([1] : List Nat).take i) ⟨Tl, Ti, Tk⟩).stk.length ≤ 2000003 := fun i => by
      have h1 := List.length_take_le' i ([1] : List Nat)
      have h2 : ([1] : List Nat).length ≤ 3 := by decide
      rw [pushL_len]
      show Tk.length + _ ≤ _
      omega
    rcases hc with rfl | rfl | rfl
    all_goals first
      | (exfalso; simp at hlt; done)
      | skip
    all_goals refine go ?_
    all_goals refine VDraw.chain [10, 13] (go ?_)
    all_goals
      cases oj with
      | none =>
        have h0 := hoj rfl
        first
        | (exfalso; revert h0; simp [pushL, pushS]; done)
        | (obtain rfl : Tk = [] := h0
           refine go ?_
           refine VAll.mk (fun b2 => go ?_)
           exact ⟨(1, some (b2, [])), ⟨by simp, fun h => by cases h⟩, by simp, rfl, .cons 1 rfl (.cons 1 rfl (.cons 0 rfl .nil))⟩)
      | some x =>
        obtain ⟨bo, junk⟩ := x
        refine go ?_
        refine VGd.mk ⟨rfl, Nat.zero_le _, app_len _ _, Nat.le_trans (Nat.mul_le_mul_left _ (Nat.succ_le_succ (hpl _))) (Nat.le_of_ble_eq_true rfl)⟩ (go ?_)
        refine VAll.mk (fun b2 => go ?_)
        exact ⟨(_, some (b2, [])), ⟨by simp, fun h => by cases h⟩, by simp, rfl, .cons 1 rfl (.cons 1 rfl (.cons 0 (congrArg (fun c => some (b2, AObj.arr 2 c 0)) (app_cells _ _ _)) .nil))⟩
  · have hj2 : j = ([1] : List Nat).length := by simp at hlt hj ⊢; omega
    subst hj2
    have hfin : pushL [(popS (popS s).2).1, (popS s).1] (([1] : List Nat).take ([1] : List Nat).length) ⟨Tl, Ti, Tk⟩ = movesS 2 [1] s := hfin
    rw [hfin] at hoj ⊢
    exact VRet.mk _ (VSel.skip (VSel.refl _) _) ⟨rfl, oj, hoj, rfl⟩
theorem f_move_tuck (bf bm bw : Nat) (o : LR) (s : EfS) (ho : okL o s) (hs : 0 ≤ s.inn ∧ s.inn ≤ 1000000 ∧ s.stk.length ≤ 1000000) : MoveC bf bm bw o s [116, 117, 99, 107] 2 [1, 0, 1] := by
  have hP := f_Prim [116, 117, 99, 107]
  have hF0 := Fine.pops hs (show 0 ≤ 65536 by omega)
  have hF1 := Fine.pops hs (show 1 ≤ 65536 by omega)
  have hF2 := Fine.pops hs (show 2 ≤ 65536 by omega)
  have hF3 := Fine.pops hs (show 3 ≤ 65536 by omega)
  rw [show primR [116, 117, 99, 107] = some (2, 3) by decide] at hP
  have hP : Av.Fn Tryd.prog 16 [.str [116, 117, 99, 107]] (.tup [.agg [.int .i64 2, .int .i64 3], .bool true]) := hP
  unfold MoveC
  refine ACalls.of_W tb_ok (fn := Tryd.f33) (n := 60) (by kernel_rfl) rfl (by kernel_rfl) rfl rfl (by simp) (go ?_)
  refine Fn.use (hP) (go ?_)
  refine VAll.mk (fun b => go ?_)
  refine VAll.mk (fun bl => go ?_)
  refine VLoop.un 5 [7] (go ?_)
  refine pop_use2 ho hF0 fun o1 ho1 => ?_
  refine go ?_
  refine VGd.mk ⟨Nat.le_of_ble_eq_true rfl, Nat.le_of_ble_eq_true rfl⟩ (go ?_)
  refine pop_use2 ho1 hF1 fun o1 ho1 => ?_
  refine go ?_
  refine VGd.mk ⟨Nat.le_of_ble_eq_true rfl, Nat.le_of_ble_eq_true rfl⟩ (go ?_)
  refine VAll.mk (fun bmv => go ?_)
  repeat (refine VMap.mk _ rfl (go ?_))
  have hst : ((popS (popS s).2).2).stk.length ≤ 2000000 := hF2.2.2
  have hfin : pushL [(popS (popS s).2).1, (popS s).1] [1, 0, 1] (popS (popS s).2).2 = movesS 2 [1, 0, 1] s := rfl
  generalize (popS (popS s).2).2 = T at ho1 hst hfin ⊢
  obtain ⟨Tl, Ti, Tk⟩ := T
  refine VLoop.mk [42] (Nat × LR) (fun i => [.int .i64 i.1]) (fun i => (bl, .arr 2 (slotsC [(popS (popS s).2).1, (popS s).1]) 0) :: FS bf bm bw i.2 (pushL [(popS (popS s).2).1, (popS s).1] (([1, 0, 1] : List Nat).take i.1) ⟨Tl, Ti, Tk⟩)) (fun i => i.1 ≤ ([1, 0, 1] : List Nat).length ∧ okL i.2 (pushL [(popS (popS s).2).1, (popS s).1] (([1, 0, 1] : List Nat).take i.1) ⟨Tl, Ti, Tk⟩)) (fun i => ([1, 0, 1] : List Nat).length - i.1) (0, o1) ?_ ?_
  · exact ⟨⟨Nat.zero_le _, ho1⟩, rfl, .cons 1 rfl (VSel.skip (VSel.skip (VSel.refl _) _) _)⟩
  rintro ⟨j, oj⟩ ⟨hj, hoj⟩
  dsimp only at hj hoj hst ⊢
  refine go ?_
  refine fork (fun hlt => go ?_) (fun hlt => go ?_)
  · have hlt : j < ([1, 0, 1] : List Nat).length := by simp at hlt ⊢; omega
    have hc : j = 0 ∨ j = 1 ∨ j = 2 := by simp at hlt; omega
    have hpl : ∀ i, (pushL [(popS (popS s).2).1, (popS s).1] (([1, 0, 1] : List Nat).take i) ⟨Tl, Ti, Tk⟩).stk.length ≤ 2000003 := fun i => by
      have h1 := List.length_take_le' i ([1, 0, 1] : List Nat)
      have h2 : ([1, 0, 1] : List Nat).length ≤ 3 := by decide
      rw [pushL_len]
      show Tk.length + _ ≤ _
      omega
    rcases hc with rfl | rfl | rfl
    all_goals first
      | (exfalso; simp at hlt; done)
      | skip
    all_goals refine go ?_
    all_goals refine VDraw.chain [10, 13] (go ?_)
    all_goals
      cases oj with
      | none =>
        have h0 := hoj rfl
        first
        | (exfalso; revert h0; simp [pushL, pushS]; done)
        | (obtain rfl : Tk = [] := h0
           refine go ?_
           refine VAll.mk (fun b2 => go ?_)
           exact ⟨(1, some (b2, [])), ⟨by simp, fun h => by cases h⟩, by simp, rfl, .cons 1 rfl (.cons 1 rfl (.cons 0 rfl .nil))⟩)
      | some x =>
        obtain ⟨bo, junk⟩ := x
        refine go ?_
        refine VGd.mk ⟨rfl, Nat.zero_le _, app_len _ _, Nat.le_trans (Nat.mul_le_mul_left _ (Nat.succ_le_succ (hpl _))) (Nat.le_of_ble_eq_true rfl)⟩ (go ?_)
        refine VAll.mk (fun b2 => go ?_)
        exact ⟨(_, some (b2, [])), ⟨by simp, fun h => by cases h⟩, by simp, rfl, .cons 1 rfl (.cons 1 rfl (.cons 0 (congrArg (fun c => some (b2, AObj.arr 2 c 0)) (app_cells _ _ _)) .nil))⟩
  · have hj2 : j = ([1, 0, 1] : List Nat).length := by simp at hlt hj ⊢; omega
    subst hj2
    have hfin : pushL [(popS (popS s).2).1, (popS s).1] (([1, 0, 1] : List Nat).take ([1, 0, 1] : List Nat).length) ⟨Tl, Ti, Tk⟩ = movesS 2 [1, 0, 1] s := hfin
    rw [hfin] at hoj ⊢
    exact VRet.mk _ (VSel.skip (VSel.refl _) _) ⟨rfl, oj, hoj, rfl⟩
theorem f_move (bf bm bw : Nat) (o : LR) (s : EfS) (name : List UInt8) (k : Nat) (ks : List Nat) (hm : moveR name = some (k, ks)) (ho : okL o s) (hs : 0 ≤ s.inn ∧ s.inn ≤ 1000000 ∧ s.stk.length ≤ 1000000) : MoveC bf bm bw o s name k ks := by
  unfold moveR at hm
  split at hm
  · rename_i e
    cases hm; subst e
    exact f_move_dup bf bm bw o s ho hs
  split at hm
  · rename_i e
    cases hm; subst e
    exact f_move_drop bf bm bw o s ho hs
  split at hm
  · rename_i e
    cases hm; subst e
    exact f_move_swap bf bm bw o s ho hs
  split at hm
  · rename_i e
    cases hm; subst e
    exact f_move_over bf bm bw o s ho hs
  split at hm
  · rename_i e
    cases hm; subst e
    exact f_move_rot bf bm bw o s ho hs
  split at hm
  · rename_i e
    cases hm; subst e
    exact f_move_nip bf bm bw o s ho hs
  split at hm
  · rename_i e
    cases hm; subst e
    exact f_move_tuck bf bm bw o s ho hs
  · cases hm
end Go.Proofs.YtliabblchkgclaaDoor

namespace Go.Proofs.YtliabblchkgclaaDoor
open Go Go.Av
/-- Known words. -/
abbrev KnL := List (List UInt8 × Int × Int)
def entsOf (kn : KnL) : List (AV × AV) := kn.map fun x => (.str x.1, .agg [.int .i64 x.2.1, .int .i64 x.2.2])
def knownR (kn : KnL) (name : List UInt8) : Option (Int × Int) := (kn.find? fun x => decide (x.1 = name)).map (·.2)
theorem mapFind_ents (name : List UInt8) : ∀ (kn : KnL) (i : Nat), ∃ r, mapFind (entsOf kn) (.str name) i = some r ∧ r.map (·.2) = (knownR kn name).map fun x => AV.agg [.int .i64 x.1, .int .i64 x.2]
  | [], i => ⟨none, rfl, rfl⟩
  | x :: kn, i => by
    obtain ⟨r, h1, h2⟩ := mapFind_ents name kn (i + 1)
    by_cases e : x.1 = name
    · refine ⟨some (i, .agg [.int .i64 x.2.1, .int .i64 x.2.2]), ?_, ?_⟩
      · show (match some (decide (name = x.1)) with
          | some true => some (some (i, AV.agg [.int .i64 x.2.1, .int .i64 x.2.2]))
          | some false => mapFind (entsOf kn) (.str name) (i + 1)
          | none => none) = _
        rw [decide_eq_true e.symm]
      · unfold knownR
        rw [List.find?_cons_of_pos (by simpa using e)]; rfl
    · refine ⟨r, ?_, ?_⟩
      · show (match some (decide (name = x.1)) with
          | some true => some (some (i, AV.agg [.int .i64 x.2.1, .int .i64 x.2.2]))
          | some false => mapFind (entsOf kn) (.str name) (i + 1)
          | none => none) = _
        rw [decide_eq_false (fun h => e h.symm)]
        exact h1
      · rw [h2]
        unfold knownR
        rw [List.find?_cons_of_neg (by simpa using e)]
structure RunI where
  k : Nat
  o : LR
  t : EfS
theorem move_c {bf bw bm l : Nat} {ents : List (AV × AV)} {o : LR} {s : EfS} {Post : AOut → St → Prop} (E : St) {name : List UInt8} {k : Nat} {ks : List Nat} (hm : moveR name = some (k, ks)) (ho : okL o s) (hs : 0 ≤ s.inn ∧ s.inn ≤ 1000000 ∧ s.stk.length ≤ 1000000)
    (h : ∀ o', okL o' (movesS k ks s) → Post (.ret (.tup [])) (E ++ (WM bw bm ents l ++ FS bf bm bw o' (movesS k ks s)))) :
    ACalls Tryd.prog 33 [.ptr bf 0, .str name] (E ++ (WM bw bm ents l ++ FS bf bm bw o s)) Post := by
  refine ACalls.usep (f_move bf bm bw o s name k ks hm ho hs) (R := E ++ WM bw bm ents l) (permE _ _ _) ?_
  rintro out s' ⟨rfl, o', h1, rfl⟩
  rw [List.append_assoc]; exact h o' h1
theorem control_c {known : List UInt8 → Option (Int × Int)} {bf bw bm n l : Nat} {ents : List (AV × AV)} {o : LR} {s : EfS} {Post : AOut → St → Prop} (E : St) {name : List UInt8} (hl : s.left = l) (hk : ∀ n i o, known n = some (i, o) → 0 ≤ i ∧ i ≤ 16 ∧ 0 ≤ o ∧ o ≤ 16)
    (hR : RunC known bw bm ents n) (hn : s.left ≤ n) (ho : okL o s) (hb : 0 ≤ s.inn ∧ s.inn + 16 * s.left + 16 ≤ 100000 ∧ s.stk.length + 16 * s.left + 16 ≤ 100000 ∧ s.left ≤ 4096) (hg : GoodS s)
    (k0 : controlS (runL known) name s = none → Post (.ret (.bool false)) (E ++ (WM bw bm ents l ++ FS bf bm bw o s)))
    (k1 : ∀ t o', controlS (runL known) name s = some (.ok t) → okL o' t → GoodS t → Post (.ret (.bool true)) (E ++ (WM bw bm ents t.left ++ FS bf bm bw o' t)))
    (k2 : ∀ e, controlS (runL known) name s = some (.error e) → Post (.panic (stopV e)) E) :
    ACalls Tryd.prog 34 [.ptr bf 0, .str name] (E ++ (WM bw bm ents l ++ FS bf bm bw o s)) Post := by
  subst hl
  refine ACalls.usep (f_control hk hR bf o s name hn ho hb hg) (R := E) List.perm_append_comm ?_
  intro out s' h
  unfold CtlP at h
  split at h
  · rename_i e
    obtain ⟨rfl, rfl⟩ := h
    exact k0 e
  · rename_i r e
    unfold RunP at h
    split at h
    · rename_i t
      obtain ⟨rfl, h1, o', h2, rfl⟩ := h
      exact k1 t o' e h2 h1
    · rename_i er
      obtain ⟨rfl, rfl⟩ := h
      rw [List.append_nil]; exact k2 er e
/-- Among the names: has one been moved? -/
structure MvI where
  j : Nat
  o : LR
  mv : Option (Nat × List Nat)
def MvI.nm (i : MvI) (name : List UInt8) : List UInt8 := match i.mv with
  | none => name
  | some _ => []
def MvI.ok (i : MvI) (name : List UInt8) : Bool := match i.mv with
  | none => (primR name).isSome
  | some _ => false
def MvI.st (i : MvI) (s : EfS) : EfS := match i.mv with
  | none => s
  | some x => movesS x.1 x.2 s
def MvI.at (i : MvI) (name : List UInt8) : Prop := match i.mv with
  | none => ∀ a, a < i.j → a < 7 → namesL[a]? ≠ some name
  | some x => moveR name = some x
theorem moved_of {j : Nat} {name : List UInt8} (hj : j < 7) (h : namesL[j]? = some name) : ∃ x, moveR name = some x := by
  have hc : j = 0 ∨ j = 1 ∨ j = 2 ∨ j = 3 ∨ j = 4 ∨ j = 5 ∨ j = 6 := by omega
  rcases hc with rfl | rfl | rfl | rfl | rfl | rfl | rfl <;> (obtain rfl := (Option.some.inj h); exact ⟨_, rfl⟩)
theorem moved_no {name : List UInt8} (h : ∀ a, a < 7 → namesL[a]? ≠ some name) : moveR name = none := by
  unfold moveR
  have h0 := h 0 (by omega); have h1 := h 1 (by omega); have h2 := h 2 (by omega); have h3 := h 3 (by omega); have h4 := h 4 (by omega); have h5 := h 5 (by omega); have h6 := h 6 (by omega)
  rw [if_neg (fun e => h0 (by rw [e]; rfl)), if_neg (fun e => h1 (by rw [e]; rfl)), if_neg (fun e => h2 (by rw [e]; rfl)), if_neg (fun e => h3 (by rw [e]; rfl)), if_neg (fun e => h4 (by rw [e]; rfl)), if_neg (fun e => h5 (by rw [e]; rfl)), if_neg (fun e => h6 (by rw [e]; rfl))]
theorem names_ne {j : Nat} {w : List UInt8} (h : namesL[j]? = some w) : w ≠ [] := by
  have : (namesL.all fun w => !w.isEmpty) = true := by decide
  have := List.all_eq_true.1 this w (List.mem_of_getElem? h)
  intro e; subst e; simp at this
theorem GoodS.moves {s : EfS} (h : GoodS s) (n : Nat) (ks : List Nat) : GoodS (movesS n ks s) := by
  obtain ⟨h1, h2⟩ := h.pops n
  unfold movesS
  generalize (popsS n s).2 = t at h1
  induction ks generalizing t with
  | nil => exact h1
  | cons k ks ih =>
    refine ih _ (h1.push ?_)
    rw [List.getD_eq_getElem?_getD]
    cases hq : (popsS n s).1[k]? with
    | none => intro l e; cases e
    | some x => exact h2 x (List.mem_of_getElem? hq)

set_option maxHeartbeats 4000000 in
theorem f_run_of {kn : KnL} {bw bm n : Nat} (hk : ∀ n i o, knownR kn n = some (i, o) → 0 ≤ i ∧ i ≤ 16 ∧ 0 ≤ o ∧ o ≤ 16) (ih : ∀ m, m < n → RunC (knownR kn) bw bm (entsOf kn) m) : RunC (knownR kn) bw bm (entsOf kn) n := by
  intro bf o s q hn ho hb hg hq hgq
  have hgi : ∀ {k : Nat} {y : Tree}, q[k]? = some y → goodI y = true := by
    intro k y h
    have : ∀ l : List Tree, goodIs l = true → ∀ y ∈ l, goodI y = true := by
      intro l
      induction l with
      | nil => intro _ y hy; cases hy
      | cons t r ihl =>
        intro h y hy
        simp only [goodIs, Bool.and_eq_true] at h
        rcases List.mem_cons.1 hy with rfl | hy
        · exact h.1
        · exact ihl h.2 y hy
    exact this q hgq y (List.mem_of_getElem? h)
  refine ACalls.of_W tb_ok (fn := Tryd.f21) (n := 121) (by kernel_rfl) rfl (by kernel_rfl) rfl rfl (by simp) (go ?_)
  refine VLoop.mk [19] RunI (fun i => [.int .i64 i.k]) (fun i => WM bw bm (entsOf kn) i.t.left ++ FS bf bm bw i.o i.t)
    (fun i => i.k ≤ q.length ∧ okL i.o i.t ∧ Bud i.t ∧ GoodS i.t ∧ i.t.left ≤ n ∧ runL (knownR kn) (q.drop i.k) i.t = runL (knownR kn) q s) (fun i => q.length - i.k) ⟨0, o, s⟩ ?_ ?_
  · exact ⟨⟨Nat.zero_le _, ho, hb, hg, hn, rfl⟩, rfl, VSel.refl _⟩
  rintro ⟨k, o1, t⟩ ⟨hk1, ho1, hb1, hg1, hn1, hI⟩
  dsimp only at hk1 ho1 hb1 hg1 hn1 hI ⊢
  refine go ?_
  refine fork (fun hlt => go ?_) (fun hlt => go ?_)
  · have hlt : k < q.length := by omega
    obtain ⟨y, hy⟩ : ∃ y, q[k]? = some y := ⟨q[k], by simp [hlt]⟩
    have hgy := hgi hy
    have hd : q.drop k = y :: q.drop (k + 1) := by
      rw [List.drop_eq_getElem_cons hlt]
      congr 1
      rw [List.getElem?_eq_getElem hlt] at hy
      exact Option.some.inj hy
    rw [hd, runL_cons hk] at hI
    obtain ⟨b1, b2, b3, b4⟩ := hb1
    refine VNth.mk (itemAV y) (by rw [mulN_eq, itemAVs_map]; simp [hy]) (go ?_)
    refine fork (fun hw => go ?_) (fun hw => go ?_)
    · have hl0 : t.left = 0 := by omega
      rw [if_pos hl0] at hI
      refine VRet.mk [] .nil ?_
      rw [← hI]
      exact ⟨rfl, rfl⟩
    have hl0 : t.left ≠ 0 := by omega
    rw [if_neg hl0] at hI
    obtain ⟨s1, hs1⟩ : ∃ s1 : EfS, s1 = { t with left := t.left - 1 } := ⟨_, rfl⟩
    rw [← hs1] at hI
    have hR := ih (t.left - 1) (by omega)
    have hwk : ((4096 - t.left : Nat) : Int) + 1 = ((4096 - (t.left - 1) : Nat) : Int) := by omega
    rw [hwk]
    cases y with
    | none => simp [goodI] at hgy
    | odd u v => simp [goodI] at hgy
    | int m =>
      have hI : runL (knownR kn) (q.drop (k + 1)) (pushS s1 none) = runL (knownR kn) q s := hI
      obtain ⟨Tl, Ti, Tk⟩ := t
      dsimp only at b1 b2 b3 b4 hs1 hl0 hn1
      have gs : GoodS (pushS s1 none) := GoodS.push (by rw [hs1]; exact hg1) (fun l hl => by cases hl)
      subst hs1
      refine go ?_
      refine VAll.mk (fun b6 => go ?_)
      refine VAll.mk (fun b8 => go ?_)
      refine VDraw.chain [10, 13] (go ?_)
      iterate 6 ((conv => whnf); (apply VQ.mk; focus (refine go ?_; exact ⟨rfl, rfl⟩)))
      refine go ?_
      cases o1 with
      | none =>
        obtain rfl : Tk = [] := ho1 rfl
        refine go ?_
        refine VAll.mk (fun b9 => go ?_)
        refine VObj.mk 5 _ rfl (go ?_)
        refine ⟨⟨k + 1, some (b9, []), pushS ⟨Tl - 1, Ti, []⟩ none⟩, ⟨by dsimp only; omega, (fun h => by cases h), ⟨by dsimp only [pushS]; omega, by dsimp only [pushS]; omega, by simp [pushS] at *; omega, by dsimp only [pushS]; omega⟩, gs, by dsimp only [pushS]; omega, hI⟩, by dsimp only; omega, rfl, ?_⟩
        exact .cons 3 rfl (.cons 3 rfl (.cons 3 rfl (.cons 0 rfl .nil)))
      | some y =>
        obtain ⟨bo, junk⟩ := y
        refine go ?_
        refine VObj.mk 5 _ rfl (go ?_)
        refine VGd.mk ⟨rfl, Nat.zero_le _, app_len _ _, by dsimp only; omega⟩ (go ?_)
        refine VAll.mk (fun b9 => go ?_)
        refine VObj.mk 5 _ rfl (go ?_)
        refine ⟨⟨k + 1, some (b9, []), pushS ⟨Tl - 1, Ti, Tk⟩ none⟩, ⟨by dsimp only; omega, (fun h => by cases h), ⟨by dsimp only [pushS]; omega, by dsimp only [pushS]; omega, by simp [pushS] at *; omega, by dsimp only [pushS]; omega⟩, gs, by dsimp only [pushS]; omega, hI⟩, by dsimp only; omega, rfl, ?_⟩
        rw [fs_app junk]
        exact .cons 3 rfl (.cons 3 rfl (.cons 3 rfl (.cons 0 rfl .nil)))
    | str m =>
      have hI : runL (knownR kn) (q.drop (k + 1)) (pushS s1 none) = runL (knownR kn) q s := hI
      obtain ⟨Tl, Ti, Tk⟩ := t
      dsimp only at b1 b2 b3 b4 hs1 hl0 hn1
      have gs : GoodS (pushS s1 none) := GoodS.push (by rw [hs1]; exact hg1) (fun l hl => by cases hl)
      subst hs1
      refine go ?_
      refine VAll.mk (fun b6 => go ?_)
      refine VAll.mk (fun b8 => go ?_)
      refine VDraw.chain [10, 13] (go ?_)
      iterate 6 ((conv => whnf); (apply VQ.mk; focus (refine go ?_; exact ⟨rfl, rfl⟩)))
      refine go ?_
      cases o1 with
      | none =>
        obtain rfl : Tk = [] := ho1 rfl
        refine go ?_
        refine VAll.mk (fun b9 => go ?_)
        refine VObj.mk 5 _ rfl (go ?_)
        refine ⟨⟨k + 1, some (b9, []), pushS ⟨Tl - 1, Ti, []⟩ none⟩, ⟨by dsimp only; omega, (fun h => by cases h), ⟨by dsimp only [pushS]; omega, by dsimp only [pushS]; omega, by simp [pushS] at *; omega, by dsimp only [pushS]; omega⟩, gs, by dsimp only [pushS]; omega, hI⟩, by dsimp only; omega, rfl, ?_⟩
        exact .cons 3 rfl (.cons 3 rfl (.cons 3 rfl (.cons 0 rfl .nil)))
      | some y =>
        obtain ⟨bo, junk⟩ := y
        refine go ?_
        refine VObj.mk 5 _ rfl (go ?_)
        refine VGd.mk ⟨rfl, Nat.zero_le _, app_len _ _, by dsimp only; omega⟩ (go ?_)
        refine VAll.mk (fun b9 => go ?_)
        refine VObj.mk 5 _ rfl (go ?_)
        refine ⟨⟨k + 1, some (b9, []), pushS ⟨Tl - 1, Ti, Tk⟩ none⟩, ⟨by dsimp only; omega, (fun h => by cases h), ⟨by dsimp only [pushS]; omega, by dsimp only [pushS]; omega, by simp [pushS] at *; omega, by dsimp only [pushS]; omega⟩, gs, by dsimp only [pushS]; omega, hI⟩, by dsimp only; omega, rfl, ?_⟩
        rw [fs_app junk]
        exact .cons 3 rfl (.cons 3 rfl (.cons 3 rfl (.cons 0 rfl .nil)))
    | bool m =>
      have hI : runL (knownR kn) (q.drop (k + 1)) (pushS s1 none) = runL (knownR kn) q s := hI
      obtain ⟨Tl, Ti, Tk⟩ := t
      dsimp only at b1 b2 b3 b4 hs1 hl0 hn1
      have gs : GoodS (pushS s1 none) := GoodS.push (by rw [hs1]; exact hg1) (fun l hl => by cases hl)
      subst hs1
      refine go ?_
      refine VAll.mk (fun b6 => go ?_)
      refine VAll.mk (fun b8 => go ?_)
      refine VDraw.chain [10, 13] (go ?_)
      iterate 6 ((conv => whnf); (apply VQ.mk; focus (refine go ?_; exact ⟨rfl, rfl⟩)))
      refine go ?_
      cases o1 with
      | none =>
        obtain rfl : Tk = [] := ho1 rfl
        refine go ?_
        refine VAll.mk (fun b9 => go ?_)
        refine VObj.mk 5 _ rfl (go ?_)
        refine ⟨⟨k + 1, some (b9, []), pushS ⟨Tl - 1, Ti, []⟩ none⟩, ⟨by dsimp only; omega, (fun h => by cases h), ⟨by dsimp only [pushS]; omega, by dsimp only [pushS]; omega, by simp [pushS] at *; omega, by dsimp only [pushS]; omega⟩, gs, by dsimp only [pushS]; omega, hI⟩, by dsimp only; omega, rfl, ?_⟩
        exact .cons 3 rfl (.cons 3 rfl (.cons 3 rfl (.cons 0 rfl .nil)))
      | some y =>
        obtain ⟨bo, junk⟩ := y
        refine go ?_
        refine VObj.mk 5 _ rfl (go ?_)
        refine VGd.mk ⟨rfl, Nat.zero_le _, app_len _ _, by dsimp only; omega⟩ (go ?_)
        refine VAll.mk (fun b9 => go ?_)
        refine VObj.mk 5 _ rfl (go ?_)
        refine ⟨⟨k + 1, some (b9, []), pushS ⟨Tl - 1, Ti, Tk⟩ none⟩, ⟨by dsimp only; omega, (fun h => by cases h), ⟨by dsimp only [pushS]; omega, by dsimp only [pushS]; omega, by simp [pushS] at *; omega, by dsimp only [pushS]; omega⟩, gs, by dsimp only [pushS]; omega, hI⟩, by dsimp only; omega, rfl, ?_⟩
        rw [fs_app junk]
        exact .cons 3 rfl (.cons 3 rfl (.cons 3 rfl (.cons 0 rfl .nil)))
    | box m =>
      have hI : runL (knownR kn) (q.drop (k + 1)) (pushS s1 none) = runL (knownR kn) q s := hI
      obtain ⟨Tl, Ti, Tk⟩ := t
      dsimp only at b1 b2 b3 b4 hs1 hl0 hn1
      have gs : GoodS (pushS s1 none) := GoodS.push (by rw [hs1]; exact hg1) (fun l hl => by cases hl)
      subst hs1
      refine go ?_
      refine VAll.mk (fun b6 => go ?_)
      refine VAll.mk (fun b8 => go ?_)
      refine VDraw.chain [10, 13] (go ?_)
      iterate 6 ((conv => whnf); (apply VQ.mk; focus (refine go ?_; exact ⟨rfl, rfl⟩)))
      refine go ?_
      cases o1 with
      | none =>
        obtain rfl : Tk = [] := ho1 rfl
        refine go ?_
        refine VAll.mk (fun b9 => go ?_)
        refine VObj.mk 5 _ rfl (go ?_)
        refine ⟨⟨k + 1, some (b9, []), pushS ⟨Tl - 1, Ti, []⟩ none⟩, ⟨by dsimp only; omega, (fun h => by cases h), ⟨by dsimp only [pushS]; omega, by dsimp only [pushS]; omega, by simp [pushS] at *; omega, by dsimp only [pushS]; omega⟩, gs, by dsimp only [pushS]; omega, hI⟩, by dsimp only; omega, rfl, ?_⟩
        exact .cons 3 rfl (.cons 3 rfl (.cons 3 rfl (.cons 0 rfl .nil)))
      | some y =>
        obtain ⟨bo, junk⟩ := y
        refine go ?_
        refine VObj.mk 5 _ rfl (go ?_)
        refine VGd.mk ⟨rfl, Nat.zero_le _, app_len _ _, by dsimp only; omega⟩ (go ?_)
        refine VAll.mk (fun b9 => go ?_)
        refine VObj.mk 5 _ rfl (go ?_)
        refine ⟨⟨k + 1, some (b9, []), pushS ⟨Tl - 1, Ti, Tk⟩ none⟩, ⟨by dsimp only; omega, (fun h => by cases h), ⟨by dsimp only [pushS]; omega, by dsimp only [pushS]; omega, by simp [pushS] at *; omega, by dsimp only [pushS]; omega⟩, gs, by dsimp only [pushS]; omega, hI⟩, by dsimp only; omega, rfl, ?_⟩
        rw [fs_app junk]
        exact .cons 3 rfl (.cons 3 rfl (.cons 3 rfl (.cons 0 rfl .nil)))
    | list m =>
      have hI : runL (knownR kn) (q.drop (k + 1)) (pushS s1 none) = runL (knownR kn) q s := hI
      obtain ⟨Tl, Ti, Tk⟩ := t
      dsimp only at b1 b2 b3 b4 hs1 hl0 hn1
      have gs : GoodS (pushS s1 none) := GoodS.push (by rw [hs1]; exact hg1) (fun l hl => by cases hl)
      subst hs1
      refine go ?_
      refine VAll.mk (fun b6 => go ?_)
      refine VAll.mk (fun b8 => go ?_)
      refine VDraw.chain [10, 13] (go ?_)
      iterate 6 ((conv => whnf); (apply VQ.mk; focus (refine go ?_; exact ⟨rfl, rfl⟩)))
      refine go ?_
      cases o1 with
      | none =>
        obtain rfl : Tk = [] := ho1 rfl
        refine go ?_
        refine VAll.mk (fun b9 => go ?_)
        refine VObj.mk 5 _ rfl (go ?_)
        refine ⟨⟨k + 1, some (b9, []), pushS ⟨Tl - 1, Ti, []⟩ none⟩, ⟨by dsimp only; omega, (fun h => by cases h), ⟨by dsimp only [pushS]; omega, by dsimp only [pushS]; omega, by simp [pushS] at *; omega, by dsimp only [pushS]; omega⟩, gs, by dsimp only [pushS]; omega, hI⟩, by dsimp only; omega, rfl, ?_⟩
        exact .cons 3 rfl (.cons 3 rfl (.cons 3 rfl (.cons 0 rfl .nil)))
      | some y =>
        obtain ⟨bo, junk⟩ := y
        refine go ?_
        refine VObj.mk 5 _ rfl (go ?_)
        refine VGd.mk ⟨rfl, Nat.zero_le _, app_len _ _, by dsimp only; omega⟩ (go ?_)
        refine VAll.mk (fun b9 => go ?_)
        refine VObj.mk 5 _ rfl (go ?_)
        refine ⟨⟨k + 1, some (b9, []), pushS ⟨Tl - 1, Ti, Tk⟩ none⟩, ⟨by dsimp only; omega, (fun h => by cases h), ⟨by dsimp only [pushS]; omega, by dsimp only [pushS]; omega, by simp [pushS] at *; omega, by dsimp only [pushS]; omega⟩, gs, by dsimp only [pushS]; omega, hI⟩, by dsimp only; omega, rfl, ?_⟩
        rw [fs_app junk]
        exact .cons 3 rfl (.cons 3 rfl (.cons 3 rfl (.cons 0 rfl .nil)))
    | quot m =>
      have hgx : GoodX (some m) := by
        simp only [goodI, Bool.and_eq_true, decide_eq_true_eq] at hgy
        intro l hl; cases hl; exact hgy
      have hI : runL (knownR kn) (q.drop (k + 1)) (pushS s1 (some m)) = runL (knownR kn) q s := hI
      obtain ⟨Tl, Ti, Tk⟩ := t
      dsimp only at b1 b2 b3 b4 hs1 hl0 hn1
      have gs : GoodS (pushS s1 (some m)) := GoodS.push (by rw [hs1]; exact hg1) hgx
      subst hs1
      refine go ?_
      refine VAll.mk (fun b6 => go ?_)
      refine VAll.mk (fun b8 => go ?_)
      refine VDraw.chain [10, 13] (go ?_)
      iterate 6 ((conv => whnf); (apply VQ.mk; focus (refine go ?_; exact ⟨rfl, rfl⟩)))
      refine go ?_
      cases o1 with
      | none =>
        obtain rfl : Tk = [] := ho1 rfl
        refine go ?_
        refine VAll.mk (fun b9 => go ?_)
        refine VObj.mk 5 _ rfl (go ?_)
        refine ⟨⟨k + 1, some (b9, []), pushS ⟨Tl - 1, Ti, []⟩ (some m)⟩, ⟨by dsimp only; omega, (fun h => by cases h), ⟨by dsimp only [pushS]; omega, by dsimp only [pushS]; omega, by simp [pushS] at *; omega, by dsimp only [pushS]; omega⟩, gs, by dsimp only [pushS]; omega, hI⟩, by dsimp only; omega, rfl, ?_⟩
        exact .cons 3 rfl (.cons 3 rfl (.cons 3 rfl (.cons 0 rfl .nil)))
      | some y =>
        obtain ⟨bo, junk⟩ := y
        refine go ?_
        refine VObj.mk 5 _ rfl (go ?_)
        refine VGd.mk ⟨rfl, Nat.zero_le _, app_len _ _, by dsimp only; omega⟩ (go ?_)
        refine VAll.mk (fun b9 => go ?_)
        refine VObj.mk 5 _ rfl (go ?_)
        refine ⟨⟨k + 1, some (b9, []), pushS ⟨Tl - 1, Ti, Tk⟩ (some m)⟩, ⟨by dsimp only; omega, (fun h => by cases h), ⟨by dsimp only [pushS]; omega, by dsimp only [pushS]; omega, by simp [pushS] at *; omega, by dsimp only [pushS]; omega⟩, gs, by dsimp only [pushS]; omega, hI⟩, by dsimp only; omega, rfl, ?_⟩
        rw [fs_app junk]
        exact .cons 3 rfl (.cons 3 rfl (.cons 3 rfl (.cons 0 rfl .nil)))
    | call name =>
      have hne : name ≠ [] := by
        simp only [goodI] at hgy
        intro e; subst e; simp at hgy
      have gs1 : GoodS s1 := by rw [hs1]; exact hg1
      have ho1' : okL o1 s1 := by rw [hs1]; exact ho1
      have l1 : s1.left = t.left - 1 := by rw [hs1]
      have l2 : s1.inn = t.inn := by rw [hs1]
      have l3 : s1.stk = t.stk := by rw [hs1]
      have hnext : ∀ (o' : LR) (T : EfS), stepS (runL (knownR kn)) (knownR kn) (.call name) s1 = .ok T → okL o' T → GoodS T →
          k + 1 ≤ q.length ∧ okL o' T ∧ Bud T ∧ GoodS T ∧ T.left ≤ n ∧ runL (knownR kn) (q.drop (k + 1)) T = runL (knownR kn) q s := by
        intro o' T h1 h2 h3
        rw [h1] at hI
        obtain ⟨c1, c2, c3, c4⟩ := stepS_gr hk (fun q s t h => runL_gr hk h) h1
        rw [l1] at c1 c3 c4
        rw [l2] at c2 c3
        rw [l3] at c4
        exact ⟨by omega, h2, ⟨by omega, by omega, by omega, by omega⟩, h3, by omega, hI⟩
      have herr : ∀ e, stepS (runL (knownR kn)) (knownR kn) (.call name) s1 = .error e → runL (knownR kn) q s = .error e := by
        intro e h1
        rw [h1] at hI
        exact hI.symm
      have hfs : FS bf bm bw o1 t = FS bf bm bw o1 s1 := by unfold FS fbox; rw [l2, l3]
      rw [hfs, ← l1]
      clear hI
      refine go ?_
      refine VAll.mk (fun b6 => go ?_)
      have hP := f_Prim name
      refine Fn.use (hP) (go ?_)
      refine VAll.mk (fun b11 => go ?_)
      refine Fn.use (f_Names) (go ?_)
      refine VLoop.mk [10, 12, 75] MvI (fun i => [.str (i.nm name), .bool (i.ok name), .int .i64 i.j]) (fun i => [(b11, .box [.int .i64 (((primR name).map (·.1)).getD 0 : Nat), .int .i64 (((primR name).map (·.2)).getD 0 : Nat)])] ++ (WM bw bm (entsOf kn) s1.left ++ FS bf bm bw i.o (i.st s1)))
        (fun i => i.j ≤ 52 ∧ okL i.o (i.st s1) ∧ i.at name) (fun i => 52 - i.j) ⟨0, o1, none⟩ ?_ ?_
      · exact ⟨⟨Nat.zero_le _, ho1', fun i hi => absurd hi (Nat.not_lt_zero _)⟩, rfl, .cons 0 rfl (VSel.skip (VSel.refl _) _)⟩
      rintro ⟨j, o2, mv⟩ ⟨hj, ho2, hat⟩
      dsimp only at hj ho2 hat ⊢
      cases mv with
      | none =>
        have ho2 : okL o2 s1 := ho2
        dsimp only [MvI.nm, MvI.ok, MvI.st]
        have hat : ∀ a, a < j → a < 7 → namesL[a]? ≠ some name := hat
        refine go ?_
        refine fork (fun hlt => go ?_) (fun hlt => go ?_)
        · have hlt : j < 52 := by omega
          obtain ⟨w, hw⟩ : ∃ w, namesL[j]? = some w := ⟨_, List.getElem?_eq_getElem (show j < namesL.length from hlt)⟩
          refine VNth.mk (.str w) (by rw [mulN_eq]; simp [hw]) (go ?_)
          have hskip : (j < 7 → w ≠ name) → ∀ a, a < j + 1 → a < 7 → namesL[a]? ≠ some name := by
            intro h a h1 h2 h3
            by_cases e : a = j
            · subst e; rw [hw] at h3; exact h h2 (Option.some.inj h3)
            · exact hat a (by omega) h2 h3
          refine fork (fun h7 => go ?_) (fun h7 => go ?_)
          · refine fork (fun hwn => go ?_) (fun hwn => go ?_)
            · have hwn : w = name := by simpa using hwn
              obtain ⟨⟨mk, mks⟩, hx⟩ := moved_of (by omega) (hwn ▸ hw)
              refine move_c [_] hx ho2 ⟨by omega, by omega, by rw [l3]; omega⟩ fun o3 ho3 => ?_
              refine go ?_
              exact ⟨⟨j + 1, o3, some (mk, mks)⟩, ⟨by dsimp only; omega, ho3, hx⟩, by dsimp only; omega, rfl, VSel.refl _⟩
            · have hwn : ¬ w = name := by simpa using hwn
              exact ⟨⟨j + 1, o2, none⟩, ⟨by dsimp only; omega, ho2, hskip fun _ => hwn⟩, by dsimp only; omega, rfl, VSel.refl _⟩
          · exact ⟨⟨j + 1, o2, none⟩, ⟨by dsimp only; omega, ho2, hskip fun h => absurd h (by omega)⟩, by dsimp only; omega, rfl, VSel.refl _⟩
        · have hm := moved_no fun a h1 h2 => hat a (by omega) h1 h2
          refine VIf.no (by simpa using hne) (go ?_)
          refine control_c [_] rfl hk hR (by omega) ho2 ⟨by omega, by omega, by rw [l3]; omega, by omega⟩ gs1 (fun hc => ?_) (fun T o3 hc ho3 hg3 => ?_) (fun e hc => ?_)
          · cases hpr : primR name with
            | some x =>
              obtain ⟨pi, pu⟩ := x
              have hle := primR_le hpr
              have hst : stepS (runL (knownR kn)) (knownR kn) (.call name) s1 = .ok (applyS pi pu s1) := by
                unfold stepS; dsimp only; rw [hm, hc, hpr]
              refine go ?_
              refine apply_c (l := s1.left) (i := (pi : Int)) (u := (pu : Int)) [_] ho2 ⟨by omega, by omega, by rw [l3]; omega⟩ (by omega) (by omega) fun o6 ho6 => ?_
              refine go ?_
              refine ⟨⟨k + 1, o6, applyS pi pu s1⟩, hnext o6 _ hst ho6 (gs1.apply _ _), by dsimp only; omega, rfl, ?_⟩
              dsimp only
              rw [applyS_left]
              exact VSel.skip (VSel.refl _) _
            | none =>
              refine go ?_
              obtain ⟨r, hr1, hr2⟩ := mapFind_ents name kn 0
              refine VMap.mk r hr1 ?_
              cases hkn : knownR kn name with
              | none =>
                rw [hkn] at hr2
                cases r with
                | some p => simp at hr2
                | none =>
                  have hst : stepS (runL (knownR kn)) (knownR kn) (.call name) s1 = .error 10 := by
                    unfold stepS; dsimp only; rw [hm, hc, hpr, hkn]
                  refine go ?_
                  refine VAll.mk (fun b15 => go ?_)
                  refine VRet.mk [] .nil ?_
                  rw [herr 10 hst]
                  exact ⟨rfl, rfl⟩
              | some x =>
                obtain ⟨xi, xu⟩ := x
                have hle := hk _ _ _ hkn
                rw [hkn] at hr2
                cases r with
                | none => simp at hr2
                | some p =>
                  obtain ⟨pi, pv⟩ := p
                  obtain rfl : pv = .agg [.int .i64 xi, .int .i64 xu] := by simpa using hr2
                  have hst : stepS (runL (knownR kn)) (knownR kn) (.call name) s1 = .ok (applyS xi.toNat xu.toNat s1) := by
                    unfold stepS; dsimp only; rw [hm, hc, hpr, hkn]
                  refine go ?_
                  refine VAll.mk (fun b15 => go ?_)
                  refine apply_c (l := s1.left) (i := xi) (u := xu) [_, _] ho2 ⟨by omega, by omega, by rw [l3]; omega⟩ (by omega) (by omega) fun o6 ho6 => ?_
                  refine go ?_
                  refine ⟨⟨k + 1, o6, applyS xi.toNat xu.toNat s1⟩, hnext o6 _ hst ho6 (gs1.apply _ _), by dsimp only; omega, rfl, ?_⟩
                  dsimp only
                  rw [applyS_left]
                  exact VSel.skip (VSel.skip (VSel.refl _) _) _
          · have hst : stepS (runL (knownR kn)) (knownR kn) (.call name) s1 = .ok T := by
              unfold stepS; dsimp only; rw [hm, hc]
            refine go ?_
            exact ⟨⟨k + 1, o3, T⟩, hnext o3 T hst ho3 hg3, by dsimp only; omega, rfl, VSel.skip (VSel.refl _) _⟩
          · have hst : stepS (runL (knownR kn)) (knownR kn) (.call name) s1 = .error e := by
              unfold stepS; dsimp only; rw [hm, hc]
            refine go ?_
            refine VRet.mk [] .nil ?_
            rw [herr e hst]
            exact ⟨rfl, rfl⟩
      | some x =>
        obtain ⟨mk, mks⟩ := x
        have ho2 : okL o2 (movesS mk mks s1) := ho2
        dsimp only [MvI.nm, MvI.ok, MvI.st]
        have hat : moveR name = some (mk, mks) := hat
        refine go ?_
        refine fork (fun hlt => go ?_) (fun hlt => go ?_)
        · have hlt : j < 52 := by omega
          obtain ⟨w, hw⟩ : ∃ w, namesL[j]? = some w := ⟨_, List.getElem?_eq_getElem (show j < namesL.length from hlt)⟩
          refine VNth.mk (.str w) (by rw [mulN_eq]; simp [hw]) (go ?_)
          have hwn := names_ne hw
          refine fork (fun h7 => go ?_) (fun h7 => go ?_)
          · refine VIf.no (by simpa using hwn) (go ?_)
            exact ⟨⟨j + 1, o2, some (mk, mks)⟩, ⟨by dsimp only; omega, ho2, hat⟩, by dsimp only; omega, rfl, VSel.refl _⟩
          · exact ⟨⟨j + 1, o2, some (mk, mks)⟩, ⟨by dsimp only; omega, ho2, hat⟩, by dsimp only; omega, rfl, VSel.refl _⟩
        · have hst : stepS (runL (knownR kn)) (knownR kn) (.call name) s1 = .ok (movesS mk mks s1) := by
            unfold stepS; dsimp only; rw [hat]
          have hl := movesS_left mk mks s1
          refine ⟨⟨k + 1, o2, movesS mk mks s1⟩, hnext o2 _ hst ho2 (gs1.moves _ _), by dsimp only; omega, rfl, ?_⟩
          dsimp only
          rw [hl]
          exact VSel.skip (VSel.refl _) _
  · have : k = q.length := by omega
    subst this
    rw [List.drop_length, runL_nil] at hI
    refine VRet.mk _ (VSel.refl _) ?_
    rw [← hI]
    exact ⟨rfl, hg1, o1, ho1, rfl⟩
theorem f_run {kn : KnL} {bw bm : Nat} (hk : ∀ n i o, knownR kn n = some (i, o) → 0 ≤ i ∧ i ≤ 16 ∧ 0 ≤ o ∧ o ≤ 16) (n : Nat) : RunC (knownR kn) bw bm (entsOf kn) n := by
  induction n using Nat.strongRecOn with
  | _ n ih => exact f_run_of hk ih
end Go.Proofs.YtliabblchkgclaaDoor

namespace Go.Proofs.YtliabblchkgclaaDoor
open Go Go.Av
def Tree.isCall : Tree → Bool
  | .call _ => true
  | _ => false
theorem item_val {t : Tree} (h : t.isCall = false) : itemRV t = valRV t := by
  cases t <;> first | rfl | (simp [Tree.isCall] at h)
mutual
theorem clean_small : ∀ (t : Tree), t.clean = true → (valRV t).small = true
  | .int _, _ => by simp [valRV, RV.small, smallAll]
  | .str _, _ => by simp [valRV, RV.small, smallAll]
  | .bool _, _ => by simp [valRV, RV.small, smallAll]
  | .call _, _ => by simp [valRV, RV.small, smallAll]
  | .none, _ => by simp [valRV, RV.small, smallAll]
  | .box _, _ => by simp [valRV, RV.small, smallAll]
  | .odd _ _, h => by simp [Tree.clean] at h
  | .list l, h => by
    simp only [Tree.clean, Bool.and_eq_true, decide_eq_true_eq] at h
    simp only [valRV, RV.small, Bool.and_eq_true, decide_eq_true_eq, valRVs_length]
    exact ⟨h.1, clean_smallV l h.2⟩
  | .quot l, h => by
    simp only [Tree.clean, Bool.and_eq_true, decide_eq_true_eq] at h
    simp only [valRV, RV.small, Bool.and_eq_true, decide_eq_true_eq, itemRVs_length]
    exact ⟨h.1, clean_smallI l h.2⟩
theorem clean_smallV : ∀ (l : List Tree), cleanAll l = true → smallAll (valRVs l) = true
  | [], _ => by simp [valRVs, smallAll]
  | t :: r, h => by
    simp only [cleanAll, Bool.and_eq_true] at h
    simp only [valRVs, smallAll, Bool.and_eq_true]
    exact ⟨clean_small t h.1, clean_smallV r h.2⟩
theorem clean_smallI : ∀ (l : List Tree), cleanAll l = true → smallAll (itemRVs l) = true
  | [], _ => by simp [itemRVs, smallAll]
  | t :: r, h => by
    simp only [cleanAll, Bool.and_eq_true] at h
    rw [itemRVs_cons]
    simp only [smallAll, Bool.and_eq_true]
    refine ⟨?_, clean_smallI r h.2⟩
    cases hc : t.isCall with
    | false => rw [item_val hc]; exact clean_small t h.1
    | true => cases t <;> first | (simp [itemRV, RV.small, smallAll]; done) | (simp [Tree.isCall] at hc)
end
theorem small_item {t : Tree} (h : t.clean = true) : (itemRV t).small = true := by
  cases hc : t.isCall with
  | false => rw [item_val hc]; exact clean_small t h
  | true => cases t <;> first | (simp [itemRV, RV.small, smallAll]; done) | (simp [Tree.isCall] at hc)
end Go.Proofs.YtliabblchkgclaaDoor

namespace Go.Proofs.YtliabblchkgclaaDoor
open Go Go.Av
def orI (a b : Int) : Int := IntKind.u64.wrap ((BitVec.ofInt 64 a ||| BitVec.ofInt 64 b).toNat)
def andI (a b : Int) : Int := IntKind.u64.wrap ((BitVec.ofInt 64 a &&& BitVec.ofInt 64 b).toNat)
def byteN (l : List UInt8) (i : Nat) : Nat := (l.getD i 0).toNat
theorem byteN_lt (l : List UInt8) (i : Nat) : byteN l i < 256 := (l.getD i 0).toNat_lt
def wordN (l : List UInt8) : Nat := byteN l 0 ||| byteN l 1 * 2 ^ 8 ||| byteN l 2 * 2 ^ 16 ||| byteN l 3 * 2 ^ 24 ||| byteN l 4 * 2 ^ 32 ||| byteN l 5 * 2 ^ 40 ||| byteN l 6 * 2 ^ 48 ||| byteN l 7 * 2 ^ 56
theorem wrap_nat {n : Nat} (h : n < 18446744073709551616) : IntKind.u64.wrap (n : Int) = n := by
  simp [IntKind.wrap, IntKind.signed, IntKind.bits]; omega
theorem ofInt_nat {n : Nat} (h : n < 18446744073709551616) : (BitVec.ofInt 64 (n : Int)).toNat = n := by
  simp [BitVec.toNat_ofInt]; omega
theorem orI_nat {a b : Nat} (ha : a < 18446744073709551616) (hb : b < 18446744073709551616) : orI a b = ((a ||| b : Nat) : Int) := by
  unfold orI
  rw [BitVec.toNat_or, ofInt_nat ha, ofInt_nat hb]
  exact wrap_nat (Nat.or_lt_two_pow (n := 64) ha hb)
theorem andI_nat {a b : Nat} (ha : a < 18446744073709551616) (hb : b < 18446744073709551616) : andI a b = ((a &&& b : Nat) : Int) := by
  unfold andI
  rw [BitVec.toNat_and, ofInt_nat ha, ofInt_nat hb]
  exact wrap_nat (Nat.and_lt_two_pow (n := 64) a hb)
theorem or_lt {a b : Nat} (ha : a < 18446744073709551616) (hb : b < 18446744073709551616) : (a ||| b) < 18446744073709551616 := Nat.or_lt_two_pow (n := 64) ha hb
theorem wordN_lt (l : List UInt8) : wordN l < 18446744073709551616 := by
  have h := byteN_lt l
  unfold wordN
  refine or_lt (or_lt (or_lt (or_lt (or_lt (or_lt (or_lt ?_ ?_) ?_) ?_) ?_) ?_) ?_) ?_
  · have := h 0; omega
  · have := h 1; omega
  · have := h 2; omega
  · have := h 3; omega
  · have := h 4; omega
  · have := h 5; omega
  · have := h 6; omega
  · have := h 7; omega
theorem testBit_zero_of_and {x m i : Nat} (h : x &&& m = 0) (hm : m.testBit i = true) : x.testBit i = false := by
  have := congrArg (·.testBit i) h
  simpa [hm] using this
theorem top_bit {b : Nat} (hb : b < 256) (h : b.testBit 7 = false) : b < 128 := by
  rcases Nat.lt_or_ge b 128 with h1 | h1
  · exact h1
  · rw [Nat.testBit_eq_decide_div_mod_eq] at h
    simp at h; omega
/-- Eight bytes of ASCII. -/
theorem word_ascii {l : List UInt8} (h : wordN l &&& 9259542123273814144 = 0) : ∀ i, i < 8 → byteN l i < 128 := by
  have sh : ∀ (b k : Nat), (b * 2 ^ k).testBit (k + 7) = b.testBit 7 := fun b k => by
    rw [Nat.mul_comm, Nat.testBit_two_pow_mul]; simp
  have key : ∀ k, (9259542123273814144 : Nat).testBit (k + 7) = true → (wordN l).testBit (k + 7) = false := fun k hk => testBit_zero_of_and h hk
  unfold wordN at key
  simp only [Nat.testBit_or, Bool.or_eq_false_iff] at key
  intro i hi
  refine top_bit (byteN_lt l i) ?_
  have k0 := key 0 (by decide); have k1 := key 8 (by decide); have k2 := key 16 (by decide); have k3 := key 24 (by decide)
  have k4 := key 32 (by decide); have k5 := key 40 (by decide); have k6 := key 48 (by decide); have k7 := key 56 (by decide)
  rw [sh] at k1 k2 k3 k4 k5 k6 k7
  obtain rfl | rfl | rfl | rfl | rfl | rfl | rfl | rfl : i = 0 ∨ i = 1 ∨ i = 2 ∨ i = 3 ∨ i = 4 ∨ i = 5 ∨ i = 6 ∨ i = 7 := by omega
  · exact k0.1.1.1.1.1.1.1
  · exact k1.1.1.1.1.1.1.2
  · exact k2.1.1.1.1.1.2
  · exact k3.1.1.1.1.2
  · exact k4.1.1.1.2
  · exact k5.1.1.2
  · exact k6.1.2
  · exact k7.2
theorem fault_cons {c : UInt8} (r : List UInt8) (hc : c.toNat < 128) : faultR (c :: r) = none ↔ faultR r = none := by
  have := faultR_app [] c r hc
  rw [List.nil_append] at this
  rw [this]
  exact ⟨fun h => h.2, fun h => ⟨rfl, h⟩⟩
theorem fault_ascii : ∀ (n : Nat) (l : List UInt8), (∀ i, i < n → byteN l i < 128) → n ≤ l.length → (faultR l = none ↔ faultR (l.drop n) = none)
  | 0, l, _, _ => by simp
  | n + 1, [], _, h => by simp at h
  | n + 1, c :: r, h, hl => by
    have h0 : c.toNat < 128 := h 0 (by omega)
    rw [fault_cons r h0, List.drop_succ_cons]
    exact fault_ascii n r (fun i hi => h (i + 1) (by omega)) (by simpa using hl)
theorem sh_lt (l : List UInt8) (i : Nat) {k : Nat} (hk : k ≤ 56) : byteN l i * 2 ^ k < 18446744073709551616 := by
  refine Nat.lt_of_lt_of_le (Nat.mul_lt_mul_of_pos_right (byteN_lt l i) (Nat.two_pow_pos k)) ?_
  have : (256 : Nat) * 2 ^ k ≤ 256 * 2 ^ 56 := Nat.mul_le_mul_left _ (Nat.pow_le_pow_right (by decide) hk)
  exact Nat.le_trans this (by decide)
theorem u64_le {n : Nat} (h : n < 18446744073709551616) : (n : Int) ≤ 18446744073709551615 := by omega

theorem f_u8word (l : List UInt8) (hl : 8 ≤ l.length) : Av.Fn Tryd.prog 63 [.str l] (.int .u64 (wordN l : Nat)) := by
  have h := byteN_lt l
  have h0 : (l.getD 0 0).toNat < 256 := h 0
  have h1 : (l.getD 1 0).toNat < 256 := h 1
  have h2 : (l.getD 2 0).toNat < 256 := h 2
  have h3 : (l.getD 3 0).toNat < 256 := h 3
  have h4 : (l.getD 4 0).toNat < 256 := h 4
  have h5 : (l.getD 5 0).toNat < 256 := h 5
  have h6 : (l.getD 6 0).toNat < 256 := h 6
  have h7 : (l.getD 7 0).toNat < 256 := h 7
  refine ACalls.of_W tb_ok (fn := Tryd.f63) (n := 59) (by kernel_rfl) rfl (by kernel_rfl) rfl rfl (by simp) (go ?_)
  have b0 : byteN l 0 < 18446744073709551616 := by show (l.getD 0 0).toNat < _; omega
  refine VQ.mk (.int .u64 ((byteN l 0 : Nat) : Int)) (by refine go ?_; exact VInt.fit (Int.natCast_nonneg _) (Int.le_trans (Int.ofNat_le.2 (Nat.le_of_lt (UInt8.toNat_lt _))) (by decide)) ⟨rfl, rfl⟩) (go ?_)
  refine VQ.mk (.int .u64 ((byteN l 1 : Nat) : Int)) (by refine go ?_; exact VInt.fit (Int.natCast_nonneg _) (Int.le_trans (Int.ofNat_le.2 (Nat.le_of_lt (UInt8.toNat_lt _))) (by decide)) ⟨rfl, rfl⟩) (go ?_)
  have c1 := sh_lt l 1 (k := 8) (by decide)
  refine VQ.mk (.int .u64 ((byteN l 1 * 2 ^ 8 : Nat) : Int)) (by refine go ?_; exact VInt.to ((byteN l 1 * 2 ^ 8 : Nat) : Int) (by simp [IntKind.bits]) (Int.natCast_nonneg _) (u64_le c1) ⟨rfl, rfl⟩) (go ?_)
  have b1 := or_lt b0 c1
  refine VQ.mk (.int .u64 ((byteN l 2 : Nat) : Int)) (by refine go ?_; exact VInt.fit (Int.natCast_nonneg _) (Int.le_trans (Int.ofNat_le.2 (Nat.le_of_lt (UInt8.toNat_lt _))) (by decide)) ⟨rfl, rfl⟩) (go ?_)
  have c2 := sh_lt l 2 (k := 16) (by decide)
  refine VQ.mk (.int .u64 ((byteN l 2 * 2 ^ 16 : Nat) : Int)) (by refine go ?_; exact VInt.to ((byteN l 2 * 2 ^ 16 : Nat) : Int) (by simp [IntKind.bits]) (Int.natCast_nonneg _) (u64_le c2) ⟨rfl, rfl⟩) (go ?_)
  have b2 := or_lt b1 c2
  refine VQ.mk (.int .u64 ((byteN l 3 : Nat) : Int)) (by refine go ?_; exact VInt.fit (Int.natCast_nonneg _) (Int.le_trans (Int.ofNat_le.2 (Nat.le_of_lt (UInt8.toNat_lt _))) (by decide)) ⟨rfl, rfl⟩) (go ?_)
  have c3 := sh_lt l 3 (k := 24) (by decide)
  refine VQ.mk (.int .u64 ((byteN l 3 * 2 ^ 24 : Nat) : Int)) (by refine go ?_; exact VInt.to ((byteN l 3 * 2 ^ 24 : Nat) : Int) (by simp [IntKind.bits]) (Int.natCast_nonneg _) (u64_le c3) ⟨rfl, rfl⟩) (go ?_)
  have b3 := or_lt b2 c3
  refine VQ.mk (.int .u64 ((byteN l 4 : Nat) : Int)) (by refine go ?_; exact VInt.fit (Int.natCast_nonneg _) (Int.le_trans (Int.ofNat_le.2 (Nat.le_of_lt (UInt8.toNat_lt _))) (by decide)) ⟨rfl, rfl⟩) (go ?_)
  have c4 := sh_lt l 4 (k := 32) (by decide)
  refine VQ.mk (.int .u64 ((byteN l 4 * 2 ^ 32 : Nat) : Int)) (by refine go ?_; exact VInt.to ((byteN l 4 * 2 ^ 32 : Nat) : Int) (by simp [IntKind.bits]) (Int.natCast_nonneg _) (u64_le c4) ⟨rfl, rfl⟩) (go ?_)
  have b4 := or_lt b3 c4
  refine VQ.mk (.int .u64 ((byteN l 5 : Nat) : Int)) (by refine go ?_; exact VInt.fit (Int.natCast_nonneg _) (Int.le_trans (Int.ofNat_le.2 (Nat.le_of_lt (UInt8.toNat_lt _))) (by decide)) ⟨rfl, rfl⟩) (go ?_)
  have c5 := sh_lt l 5 (k := 40) (by decide)
  refine VQ.mk (.int .u64 ((byteN l 5 * 2 ^ 40 : Nat) : Int)) (by refine go ?_; exact VInt.to ((byteN l 5 * 2 ^ 40 : Nat) : Int) (by simp [IntKind.bits]) (Int.natCast_nonneg _) (u64_le c5) ⟨rfl, rfl⟩) (go ?_)
  have b5 := or_lt b4 c5
  refine VQ.mk (.int .u64 ((byteN l 6 : Nat) : Int)) (by refine go ?_; exact VInt.fit (Int.natCast_nonneg _) (Int.le_trans (Int.ofNat_le.2 (Nat.le_of_lt (UInt8.toNat_lt _))) (by decide)) ⟨rfl, rfl⟩) (go ?_)
  have c6 := sh_lt l 6 (k := 48) (by decide)
  refine VQ.mk (.int .u64 ((byteN l 6 * 2 ^ 48 : Nat) : Int)) (by refine go ?_; exact VInt.to ((byteN l 6 * 2 ^ 48 : Nat) : Int) (by simp [IntKind.bits]) (Int.natCast_nonneg _) (u64_le c6) ⟨rfl, rfl⟩) (go ?_)
  have b6 := or_lt b5 c6
  refine VQ.mk (.int .u64 ((byteN l 7 : Nat) : Int)) (by refine go ?_; exact VInt.fit (Int.natCast_nonneg _) (Int.le_trans (Int.ofNat_le.2 (Nat.le_of_lt (UInt8.toNat_lt _))) (by decide)) ⟨rfl, rfl⟩) (go ?_)
  have c7 := sh_lt l 7 (k := 56) (by decide)
  refine VQ.mk (.int .u64 ((byteN l 7 * 2 ^ 56 : Nat) : Int)) (by refine go ?_; exact VInt.to ((byteN l 7 * 2 ^ 56 : Nat) : Int) (by simp [IntKind.bits]) (Int.natCast_nonneg _) (u64_le c7) ⟨rfl, rfl⟩) (go ?_)
  have b7 := or_lt b6 c7
  refine VRet.mk [] .nil ?_
  refine ⟨congrArg (fun x => AOut.ret (.int .u64 x)) ?_, rfl⟩
  show orI (orI (orI (orI (orI (orI (orI ((byteN l 0 : Nat)) (byteN l 1 * 2 ^ 8 : Nat)) (byteN l 2 * 2 ^ 16 : Nat)) (byteN l 3 * 2 ^ 24 : Nat)) (byteN l 4 * 2 ^ 32 : Nat)) (byteN l 5 * 2 ^ 40 : Nat)) (byteN l 6 * 2 ^ 48 : Nat)) (byteN l 7 * 2 ^ 56 : Nat) = ((wordN l : Nat) : Int)
  rw [orI_nat b0 c1, orI_nat b1 c2, orI_nat b2 c3, orI_nat b3 c4, orI_nat b4 c5, orI_nat b5 c6, orI_nat b6 c7]; rfl
end Go.Proofs.YtliabblchkgclaaDoor

namespace Go.Proofs.YtliabblchkgclaaDoor
open Go Go.Av
theorem fault_dec {l : List UInt8} (h : l ≠ []) : faultR l = none ↔ badB (dec l) = false ∧ faultR (l.drop (dec l).2) = none := by
  unfold faultR
  rw [runes_cons h, faultL]
  cases badB (dec l) <;> simp
theorem getD_len {l : List UInt8} (i : Nat) (h : ¬ i < l.length) : l.getD i 0 = 0 := by
  rw [List.getD_eq_getElem?_getD, List.getElem?_eq_none (by omega)]; rfl
/-- The bytes behind the first. -/
def okN (n b1 b2 b3 sz lo hi : Nat) : Prop :=
  sz ≤ n ∧ (lo ≤ b1 ∧ b1 ≤ hi) ∧ (sz ≤ 2 ∨ (128 ≤ b2 ∧ b2 ≤ 191) ∧ (sz ≤ 3 ∨ 128 ≤ b3 ∧ b3 ≤ 191))
theorem fault_slow {l : List UInt8} (h : l ≠ []) (hx : Lib.firstT (byteN l 0) < 240) {sz lo hi : Nat} (es : Lib.firstT (byteN l 0) % 8 = sz) (el : Lib.accLo (Lib.firstT (byteN l 0) / 16) = lo) (eh : Lib.accHi (Lib.firstT (byteN l 0) / 16) = hi) (hs : 2 ≤ sz ∧ sz ≤ 4) :
    faultR l = none ↔ okN l.length (byteN l 1) (byteN l 2) (byteN l 3) sz lo hi ∧ faultR (l.drop sz) = none := by
  rw [fault_dec h]
  have hl : 1 ≤ l.length := by cases l with | nil => exact absurd rfl h | cons => simp
  have e := Lib.slow_eq l.length (byteN l 0) (byteN l 1) (byteN l 2) (byteN l 3) hl (byteN_lt _ _) (byteN_lt _ _) (byteN_lt _ _) hx
  rw [es, el, eh] at e
  have ed : dec l = Lib.slowN l.length (byteN l 0) (byteN l 1) (byteN l 2) (byteN l 3) sz lo hi := by rw [e, dec_N]; rfl
  rw [ed]
  unfold Lib.slowN okN badB
  generalize byteN l 0 = b0
  generalize byteN l 1 = b1
  generalize byteN l 2 = b2
  generalize byteN l 3 = b3
  obtain rfl | rfl | rfl : sz = 2 ∨ sz = 3 ∨ sz = 4 := by omega
  all_goals repeat' split
  all_goals simp
  all_goals omega
theorem fault_bad {l : List UInt8} (h : l ≠ []) (hx : Lib.firstT (byteN l 0) = 241) : ¬ faultR l = none := by
  rw [fault_dec h]
  have e := Lib.bad_eq l.length (byteN l 0) (byteN l 1) (byteN l 2) (byteN l 3) (byteN_lt _ _) hx
  have ed : dec l = (65533, 1) := by rw [← e, dec_N]; rfl
  rw [ed]; simp [badB]
/-- The classes of first bytes. -/
theorem firstT_cases {b : Nat} (h : 128 ≤ b) (h2 : b < 256) : Lib.firstT b = 2 ∨ (Lib.firstT b = 19 ∨ Lib.firstT b = 3 ∨ Lib.firstT b = 35) ∨ (Lib.firstT b = 52 ∨ Lib.firstT b = 4 ∨ Lib.firstT b = 68) ∨ Lib.firstT b = 241 := by
  unfold Lib.firstT
  repeat' split
  all_goals simp
  all_goals omega
theorem or_and_zero {a b m : Nat} (h : (a ||| b) &&& m = 0) : a &&& m = 0 ∧ b &&& m = 0 := by
  rw [Nat.and_or_distrib_right] at h
  exact ⟨Nat.eq_zero_of_le_zero (h ▸ Nat.left_le_or), Nat.eq_zero_of_le_zero (h ▸ Nat.right_le_or)⟩
theorem andI_zero {a : Nat} (ha : a < 18446744073709551616) (h : andI a 9259542123273814144 = 0) : a &&& 9259542123273814144 = 0 := by
  have e := andI_nat (b := 9259542123273814144) ha (by decide)
  have : andI (a : Int) ((9259542123273814144 : Nat) : Int) = 0 := h
  rw [this] at e; exact (Int.ofNat_eq_zero.1 e.symm)
theorem skipW {l : List UInt8} (h : wordN l &&& 9259542123273814144 = 0) (hl : 8 ≤ l.length) : faultR l = none ↔ faultR (l.drop 8) = none := fault_ascii 8 l (word_ascii h) hl
theorem skip8 {l : List UInt8} (h : andI (wordN l : Nat) 9259542123273814144 = 0) (hl : 8 ≤ l.length) : faultR l = none ↔ faultR (l.drop 8) = none := skipW (andI_zero (wordN_lt l) h) hl
theorem skip16 {l : List UInt8} (h : andI (orI (wordN l : Nat) (wordN (l.drop 8) : Nat)) 9259542123273814144 = 0) (hl : 16 ≤ l.length) : faultR l = none ↔ faultR (l.drop 16) = none := by
  rw [orI_nat (wordN_lt _) (wordN_lt _)] at h
  obtain ⟨h1, h2⟩ := or_and_zero (andI_zero (or_lt (wordN_lt _) (wordN_lt _)) h)
  rw [skipW h1 (by omega), skipW h2 (by rw [List.length_drop]; omega), List.drop_drop]
theorem skip32 {l : List UInt8} (h : andI (orI (orI (wordN l : Nat) (wordN (l.drop 8) : Nat)) (orI (wordN (l.drop 16) : Nat) (wordN (l.drop 24) : Nat))) 9259542123273814144 = 0) (hl : 32 ≤ l.length) : faultR l = none ↔ faultR (l.drop 32) = none := by
  rw [orI_nat (wordN_lt _) (wordN_lt _), orI_nat (wordN_lt _) (wordN_lt _), orI_nat (or_lt (wordN_lt _) (wordN_lt _)) (or_lt (wordN_lt _) (wordN_lt _))] at h
  obtain ⟨h1, h2⟩ := or_and_zero (andI_zero (or_lt (or_lt (wordN_lt _) (wordN_lt _)) (or_lt (wordN_lt _) (wordN_lt _))) h)
  obtain ⟨h3, h4⟩ := or_and_zero h1
  obtain ⟨h5, h6⟩ := or_and_zero h2
  rw [skipW h3 (by omega), skipW h4 (by rw [List.length_drop]; omega), List.drop_drop, skipW h5 (by rw [List.length_drop]; omega), List.drop_drop, skipW h6 (by rw [List.length_drop]; omega), List.drop_drop]
theorem one_cell {P : Program} {b o : Nat} {k : IntKind} {z : Int} (h : ∀ W, Lay P W → W.cell? ⟨b, o, none⟩ = some (.int k z)) :
    ∀ W, Lay P W → ∀ (i : Nat) c, [AV.int k z][i]? = some c → ∃ u, W.cell? ⟨b, o + i, none⟩ = some u ∧ (∀ g, Rel g c u) ∧ u.oneCell' = true := by
  intro W hL i c hc
  match i, hc with
  | 0, hc => simp at hc; subst hc; exact ⟨_, h W hL, fun g => rfl, rfl⟩
theorem lay_ra : Tryd.prog.globalNamed ("unicode" ++ slash ++ "utf8.first") = some 3 := by kernel_rfl
theorem lay_rb : Tryd.prog.globalNamed ("unicode" ++ slash ++ "utf8.acceptRanges") = some 4 := by kernel_rfl
theorem lay_first {c : Nat} (hc : c < 256) : ∀ W, Lay Tryd.prog W → W.cell? ⟨3, c, none⟩ = some (.int .u8 (Lib.firstT c : Nat)) := fun W hL => (hL.1 _ _ lay_ra lay_rb).1 c hc
theorem lay_acc {i : Nat} (hi : i < 16) : ∀ W, Lay Tryd.prog W → ∀ (j : Nat) c, [AV.int .u8 (Lib.accLo i : Nat), AV.int .u8 (Lib.accHi i : Nat)][j]? = some c → ∃ u, W.cell? ⟨4, 2 * i + j, none⟩ = some u ∧ (∀ g, Rel g c u) ∧ u.oneCell' = true := by
  intro W hL j c hc
  have h := (hL.1 _ _ lay_ra lay_rb).2 i hi
  match j, hc with
  | 0, hc => simp at hc; subst hc; exact ⟨_, h.1, fun g => rfl, rfl⟩
  | 1, hc => simp at hc; subst hc; exact ⟨_, h.2, fun g => rfl, rfl⟩
theorem lay_acc' {i lo hi o : Nat} (h : i < 16) (el : Lib.accLo i = lo) (eh : Lib.accHi i = hi) (eo : o = 2 * i) : ∀ W, Lay Tryd.prog W → ∀ (j : Nat) c, [AV.int .u8 (lo : Nat), AV.int .u8 (hi : Nat)][j]? = some c → ∃ u, W.cell? ⟨4, o + j, none⟩ = some u ∧ (∀ g, Rel g c u) ∧ u.oneCell' = true := by
  subst el eh eo; exact lay_acc h
theorem lay_first' {c o : Nat} (hc : c < 256) (eo : o = c) : ∀ W, Lay Tryd.prog W → ∀ (j : Nat) d, [AV.int .u8 (Lib.firstT c : Nat)][j]? = some d → ∃ u, W.cell? ⟨3, o + j, none⟩ = some u ∧ (∀ g, Rel g d u) ∧ u.oneCell' = true := by
  subst eo; exact one_cell (lay_first hc)
end Go.Proofs.YtliabblchkgclaaDoor

namespace Go.Proofs.YtliabblchkgclaaDoor
open Go Go.Av
theorem bad_ret {p : Prop} [Decidable p] (h : ¬ p) : AOut.ret (.bool false) = AOut.ret (.bool (decide p)) := by rw [decide_eq_false h]
set_option maxHeartbeats 4000000 in
theorem f_Valid (s : List UInt8) : Av.Fn Tryd.prog 54 [.str s] (.bool (decide (faultR s = none))) := by
  refine ACalls.of_W tb_ok (fn := Tryd.f54) (n := 169) (by kernel_rfl) rfl (by kernel_rfl) rfl rfl (by simp) (go ?_)
  refine VLoop.mk [0] (List UInt8) (fun l => [.str l]) (fun l => [])
    (fun l => l.length ≤ s.length ∧ (faultR s = none ↔ faultR l = none)) (fun l => l.length) s ?_ ?_
  · exact ⟨⟨Nat.le_refl _, Iff.rfl⟩, rfl, .nil⟩
  rintro l ⟨hl, hI⟩
  refine go ?_
  refine fork (fun h0 => go ?_) (fun h0 => go ?_)
  · have hne : l ≠ [] := by intro e; subst e; simp at h0
    refine go ?_
    have hB : (l.getD 0 0).toNat < 256 := byteN_lt l 0
    refine fork (fun hc => go ?_) (fun hc => go ?_)
    · have hc' : byteN l 0 < 128 := Int.ofNat_lt.1 hc
      have h1 : 1 ≤ l.length := Int.ofNat_lt.1 h0
      have e1 := fault_ascii 1 l (fun i hi => by obtain rfl : i = 0 := by omega
                                                 exact hc') h1
      have s1 := e1
      replace hI := hI.trans e1
      have hlt : (l.drop 1).length < l.length := by rw [List.length_drop]; omega
      generalize l.drop 1 = m at *
      refine fork (fun h8 => go ?_) (fun h8 => go ?_)
      · have h8 : 8 < m.length := Int.ofNat_lt.1 h8
        refine Fn.use (f_u8word m (by omega)) (go ?_)
        refine fork (fun hw => go ?_) (fun hw => go ?_)
        · replace hI := hI.trans (skip8 hw (by omega))
          have hlt2 : (m.drop 8).length < l.length := by rw [List.length_drop]; omega
          generalize m.drop 8 = k at *
          refine go ?_
          refine fork (fun h16 => go ?_) (fun h16 => go ?_)
          · have h16 : 16 < k.length := Int.ofNat_lt.1 h16
            refine VQ.mk (.int .u64 (wordN k : Nat)) (by refine go ?_; refine Fn.use (f_u8word k (by omega)) (go ?_); exact ⟨congrArg _ (rfl), rfl⟩) (go ?_)
            refine VQ.mk (.int .u64 (wordN (k.drop 8) : Nat)) (by refine go ?_; refine Fn.use (f_u8word (k.drop 8) (by rw [List.length_drop]; omega)) (go ?_); exact ⟨congrArg _ (rfl), rfl⟩) (go ?_)
            refine fork (fun hw16 => go ?_) (fun hw16 => go ?_)
            · replace hI := hI.trans (skip16 hw16 (by omega))
              have hlt3 : (k.drop 16).length < l.length := by rw [List.length_drop]; omega
              generalize k.drop 16 = q at *
              refine VLoop.mk [0] (List UInt8) (fun x => [.str x]) (fun x => [])
                (fun x => x.length < l.length ∧ x.length ≤ s.length ∧ (faultR s = none ↔ faultR x = none)) (fun x => x.length) q ?_ ?_
              · exact ⟨⟨hlt3, by omega, hI⟩, rfl, .nil⟩
              rintro x ⟨hx1, hx2, hx3⟩
              refine go ?_
              refine fork (fun h32 => go ?_) (fun h32 => go ?_)
              · have h32 : 32 < x.length := Int.ofNat_lt.1 h32
                refine VQ.mk (.int .u64 (wordN x : Nat)) (by refine go ?_; refine Fn.use (f_u8word x (by omega)) (go ?_); exact ⟨congrArg _ (rfl), rfl⟩) (go ?_)
                refine VQ.mk (.int .u64 (wordN (x.drop 8) : Nat)) (by refine go ?_; refine Fn.use (f_u8word (x.drop 8) (by rw [List.length_drop]; omega)) (go ?_); exact ⟨congrArg _ (rfl), rfl⟩) (go ?_)
                refine VQ.mk (.int .u64 (wordN (x.drop 16) : Nat)) (by refine go ?_; refine Fn.use (f_u8word (x.drop 16) (by rw [List.length_drop]; omega)) (go ?_); exact ⟨congrArg _ (rfl), rfl⟩) (go ?_)
                refine VQ.mk (.int .u64 (wordN (x.drop 24) : Nat)) (by refine go ?_; refine Fn.use (f_u8word (x.drop 24) (by rw [List.length_drop]; omega)) (go ?_); exact ⟨congrArg _ (rfl), rfl⟩) (go ?_)
                refine fork (fun hw32 => go ?_) (fun hw32 => go ?_)
                · have e32 := skip32 hw32 (by omega)
                  exact ⟨x.drop 32, ⟨by rw [List.length_drop]; omega, by rw [List.length_drop]; omega, hx3.trans e32⟩, by rw [List.length_drop]; omega, rfl, .nil⟩
                · exact ⟨x, ⟨by omega, hx3⟩, hx1, rfl, .nil⟩
              · exact ⟨x, ⟨by omega, hx3⟩, hx1, rfl, .nil⟩
            · exact ⟨k, ⟨by omega, hI⟩, hlt2, rfl, .nil⟩
          · exact ⟨k, ⟨by omega, hI⟩, hlt2, rfl, .nil⟩
        · exact ⟨m, ⟨by omega, hI⟩, hlt, rfl, .nil⟩
      · exact ⟨m, ⟨by omega, hI⟩, hlt, rfl, .nil⟩
    · have hc' : 128 ≤ byteN l 0 := by have := mt (Int.ofNat_lt (n := byteN l 0) (m := 128)).2 hc; omega
      have hcs := firstT_cases hc' hB
      refine VLay.mk [.int .u8 (Lib.firstT (byteN l 0) : Nat)] rfl (lay_first' hB (Nat.zero_add _)) (go ?_)
      generalize hxe : Lib.firstT (byteN l 0) = x at *
      rcases hcs with rfl | (rfl | rfl | rfl) | (rfl | rfl | rfl) | rfl
      · refine VInt.to 2 (by decide) (by decide) (by decide) (go ?_)
        refine VLay.mk [.int .u8 (128 : Nat), .int .u8 (191 : Nat)] rfl (lay_acc' (i := 0) (by decide) rfl rfl rfl) (go ?_)
        have es := fault_slow hne (sz := 2) (lo := 128) (hi := 191) (by omega) (by rw [hxe]) (by rw [hxe]; rfl) (by rw [hxe]; rfl) (by decide)
        unfold okN at es
        refine VAll.mk (fun b => go ?_)
        refine fork (fun h => go ?_) (fun h => go ?_)
        · replace h : l.length < 2 := Int.ofNat_lt.1 h
          refine VRet.mk [] .nil ⟨bad_ret fun hs => ?_, rfl⟩
          have ee := (es.1 (hI.1 hs)).1
          omega
        have h0 : ¬ l.length < 2 := fun q => h (Int.ofNat_lt.2 q)
        clear h
        refine fork (fun h => go ?_) (fun h => go ?_)
        · replace h : byteN l 1 < 128 := Int.ofNat_lt.1 h
          refine VRet.mk [] .nil ⟨bad_ret fun hs => ?_, rfl⟩
          have ee := (es.1 (hI.1 hs)).1
          omega
        have h1 : ¬ byteN l 1 < 128 := fun q => h (Int.ofNat_lt.2 q)
        clear h
        refine fork (fun h => go ?_) (fun h => go ?_)
        · replace h : 191 < byteN l 1 := Int.ofNat_lt.1 h
          refine VRet.mk [] .nil ⟨bad_ret fun hs => ?_, rfl⟩
          have ee := (es.1 (hI.1 hs)).1
          omega
        have h2 : ¬ 191 < byteN l 1 := fun q => h (Int.ofNat_lt.2 q)
        clear h
        refine ⟨l.drop 2, ⟨by rw [List.length_drop]; omega, hI.trans (es.trans ⟨fun h => h.2, fun h => ⟨?_, h⟩⟩)⟩, by rw [List.length_drop]; omega, rfl, .nil⟩
        omega
      · refine VInt.to 3 (by decide) (by decide) (by decide) (go ?_)
        refine VLay.mk [.int .u8 (160 : Nat), .int .u8 (191 : Nat)] rfl (lay_acc' (i := 1) (by decide) rfl rfl rfl) (go ?_)
        have es := fault_slow hne (sz := 3) (lo := 160) (hi := 191) (by omega) (by rw [hxe]) (by rw [hxe]; rfl) (by rw [hxe]; rfl) (by decide)
        unfold okN at es
        refine VAll.mk (fun b => go ?_)
        refine fork (fun h => go ?_) (fun h => go ?_)
        · replace h : l.length < 3 := Int.ofNat_lt.1 h
          refine VRet.mk [] .nil ⟨bad_ret fun hs => ?_, rfl⟩
          have ee := (es.1 (hI.1 hs)).1
          omega
        have h0 : ¬ l.length < 3 := fun q => h (Int.ofNat_lt.2 q)
        clear h
        refine fork (fun h => go ?_) (fun h => go ?_)
        · replace h : byteN l 1 < 160 := Int.ofNat_lt.1 h
          refine VRet.mk [] .nil ⟨bad_ret fun hs => ?_, rfl⟩
          have ee := (es.1 (hI.1 hs)).1
          omega
        have h1 : ¬ byteN l 1 < 160 := fun q => h (Int.ofNat_lt.2 q)
        clear h
        refine fork (fun h => go ?_) (fun h => go ?_)
        · replace h : 191 < byteN l 1 := Int.ofNat_lt.1 h
          refine VRet.mk [] .nil ⟨bad_ret fun hs => ?_, rfl⟩
          have ee := (es.1 (hI.1 hs)).1
          omega
        have h2 : ¬ 191 < byteN l 1 := fun q => h (Int.ofNat_lt.2 q)
        clear h
        refine fork (fun h => go ?_) (fun h => go ?_)
        · replace h : byteN l 2 < 128 := Int.ofNat_lt.1 h
          refine VRet.mk [] .nil ⟨bad_ret fun hs => ?_, rfl⟩
          have ee := (es.1 (hI.1 hs)).1
          omega
        have h3 : ¬ byteN l 2 < 128 := fun q => h (Int.ofNat_lt.2 q)
        clear h
        refine fork (fun h => go ?_) (fun h => go ?_)
        · replace h : 191 < byteN l 2 := Int.ofNat_lt.1 h
          refine VRet.mk [] .nil ⟨bad_ret fun hs => ?_, rfl⟩
          have ee := (es.1 (hI.1 hs)).1
          omega
        have h4 : ¬ 191 < byteN l 2 := fun q => h (Int.ofNat_lt.2 q)
        clear h
        refine ⟨l.drop 3, ⟨by rw [List.length_drop]; omega, hI.trans (es.trans ⟨fun h => h.2, fun h => ⟨?_, h⟩⟩)⟩, by rw [List.length_drop]; omega, rfl, .nil⟩
        omega
      · refine VInt.to 3 (by decide) (by decide) (by decide) (go ?_)
        refine VLay.mk [.int .u8 (128 : Nat), .int .u8 (191 : Nat)] rfl (lay_acc' (i := 0) (by decide) rfl rfl rfl) (go ?_)
        have es := fault_slow hne (sz := 3) (lo := 128) (hi := 191) (by omega) (by rw [hxe]) (by rw [hxe]; rfl) (by rw [hxe]; rfl) (by decide)
        unfold okN at es
        refine VAll.mk (fun b => go ?_)
        refine fork (fun h => go ?_) (fun h => go ?_)
        · replace h : l.length < 3 := Int.ofNat_lt.1 h
          refine VRet.mk [] .nil ⟨bad_ret fun hs => ?_, rfl⟩
          have ee := (es.1 (hI.1 hs)).1
          omega
        have h0 : ¬ l.length < 3 := fun q => h (Int.ofNat_lt.2 q)
        clear h
        refine fork (fun h => go ?_) (fun h => go ?_)
        · replace h : byteN l 1 < 128 := Int.ofNat_lt.1 h
          refine VRet.mk [] .nil ⟨bad_ret fun hs => ?_, rfl⟩
          have ee := (es.1 (hI.1 hs)).1
          omega
        have h1 : ¬ byteN l 1 < 128 := fun q => h (Int.ofNat_lt.2 q)
        clear h
        refine fork (fun h => go ?_) (fun h => go ?_)
        · replace h : 191 < byteN l 1 := Int.ofNat_lt.1 h
          refine VRet.mk [] .nil ⟨bad_ret fun hs => ?_, rfl⟩
          have ee := (es.1 (hI.1 hs)).1
          omega
        have h2 : ¬ 191 < byteN l 1 := fun q => h (Int.ofNat_lt.2 q)
        clear h
        refine fork (fun h => go ?_) (fun h => go ?_)
        · replace h : byteN l 2 < 128 := Int.ofNat_lt.1 h
          refine VRet.mk [] .nil ⟨bad_ret fun hs => ?_, rfl⟩
          have ee := (es.1 (hI.1 hs)).1
          omega
        have h3 : ¬ byteN l 2 < 128 := fun q => h (Int.ofNat_lt.2 q)
        clear h
        refine fork (fun h => go ?_) (fun h => go ?_)
        · replace h : 191 < byteN l 2 := Int.ofNat_lt.1 h
          refine VRet.mk [] .nil ⟨bad_ret fun hs => ?_, rfl⟩
          have ee := (es.1 (hI.1 hs)).1
          omega
        have h4 : ¬ 191 < byteN l 2 := fun q => h (Int.ofNat_lt.2 q)
        clear h
        refine ⟨l.drop 3, ⟨by rw [List.length_drop]; omega, hI.trans (es.trans ⟨fun h => h.2, fun h => ⟨?_, h⟩⟩)⟩, by rw [List.length_drop]; omega, rfl, .nil⟩
        omega
      · refine VInt.to 3 (by decide) (by decide) (by decide) (go ?_)
        refine VLay.mk [.int .u8 (128 : Nat), .int .u8 (159 : Nat)] rfl (lay_acc' (i := 2) (by decide) rfl rfl rfl) (go ?_)
        have es := fault_slow hne (sz := 3) (lo := 128) (hi := 159) (by omega) (by rw [hxe]) (by rw [hxe]; rfl) (by rw [hxe]; rfl) (by decide)
        unfold okN at es
        refine VAll.mk (fun b => go ?_)
        refine fork (fun h => go ?_) (fun h => go ?_)
        · replace h : l.length < 3 := Int.ofNat_lt.1 h
          refine VRet.mk [] .nil ⟨bad_ret fun hs => ?_, rfl⟩
          have ee := (es.1 (hI.1 hs)).1
          omega
        have h0 : ¬ l.length < 3 := fun q => h (Int.ofNat_lt.2 q)
        clear h
        refine fork (fun h => go ?_) (fun h => go ?_)
        · replace h : byteN l 1 < 128 := Int.ofNat_lt.1 h
          refine VRet.mk [] .nil ⟨bad_ret fun hs => ?_, rfl⟩
          have ee := (es.1 (hI.1 hs)).1
          omega
        have h1 : ¬ byteN l 1 < 128 := fun q => h (Int.ofNat_lt.2 q)
        clear h
        refine fork (fun h => go ?_) (fun h => go ?_)
        · replace h : 159 < byteN l 1 := Int.ofNat_lt.1 h
          refine VRet.mk [] .nil ⟨bad_ret fun hs => ?_, rfl⟩
          have ee := (es.1 (hI.1 hs)).1
          omega
        have h2 : ¬ 159 < byteN l 1 := fun q => h (Int.ofNat_lt.2 q)
        clear h
        refine fork (fun h => go ?_) (fun h => go ?_)
        · replace h : byteN l 2 < 128 := Int.ofNat_lt.1 h
          refine VRet.mk [] .nil ⟨bad_ret fun hs => ?_, rfl⟩
          have ee := (es.1 (hI.1 hs)).1
          omega
        have h3 : ¬ byteN l 2 < 128 := fun q => h (Int.ofNat_lt.2 q)
        clear h
        refine fork (fun h => go ?_) (fun h => go ?_)
        · replace h : 191 < byteN l 2 := Int.ofNat_lt.1 h
          refine VRet.mk [] .nil ⟨bad_ret fun hs => ?_, rfl⟩
          have ee := (es.1 (hI.1 hs)).1
          omega
        have h4 : ¬ 191 < byteN l 2 := fun q => h (Int.ofNat_lt.2 q)
        clear h
        refine ⟨l.drop 3, ⟨by rw [List.length_drop]; omega, hI.trans (es.trans ⟨fun h => h.2, fun h => ⟨?_, h⟩⟩)⟩, by rw [List.length_drop]; omega, rfl, .nil⟩
        omega
      · refine VInt.to 4 (by decide) (by decide) (by decide) (go ?_)
        refine VLay.mk [.int .u8 (144 : Nat), .int .u8 (191 : Nat)] rfl (lay_acc' (i := 3) (by decide) rfl rfl rfl) (go ?_)
        have es := fault_slow hne (sz := 4) (lo := 144) (hi := 191) (by omega) (by rw [hxe]) (by rw [hxe]; rfl) (by rw [hxe]; rfl) (by decide)
        unfold okN at es
        refine VAll.mk (fun b => go ?_)
        refine fork (fun h => go ?_) (fun h => go ?_)
        · replace h : l.length < 4 := Int.ofNat_lt.1 h
          refine VRet.mk [] .nil ⟨bad_ret fun hs => ?_, rfl⟩
          have ee := (es.1 (hI.1 hs)).1
          omega
        have h0 : ¬ l.length < 4 := fun q => h (Int.ofNat_lt.2 q)
        clear h
        refine fork (fun h => go ?_) (fun h => go ?_)
        · replace h : byteN l 1 < 144 := Int.ofNat_lt.1 h
          refine VRet.mk [] .nil ⟨bad_ret fun hs => ?_, rfl⟩
          have ee := (es.1 (hI.1 hs)).1
          omega
        have h1 : ¬ byteN l 1 < 144 := fun q => h (Int.ofNat_lt.2 q)
        clear h
        refine fork (fun h => go ?_) (fun h => go ?_)
        · replace h : 191 < byteN l 1 := Int.ofNat_lt.1 h
          refine VRet.mk [] .nil ⟨bad_ret fun hs => ?_, rfl⟩
          have ee := (es.1 (hI.1 hs)).1
          omega
        have h2 : ¬ 191 < byteN l 1 := fun q => h (Int.ofNat_lt.2 q)
        clear h
        refine fork (fun h => go ?_) (fun h => go ?_)
        · replace h : byteN l 2 < 128 := Int.ofNat_lt.1 h
          refine VRet.mk [] .nil ⟨bad_ret fun hs => ?_, rfl⟩
          have ee := (es.1 (hI.1 hs)).1
          omega
        have h3 : ¬ byteN l 2 < 128 := fun q => h (Int.ofNat_lt.2 q)
        clear h
        refine fork (fun h => go ?_) (fun h => go ?_)
        · replace h : 191 < byteN l 2 := Int.ofNat_lt.1 h
          refine VRet.mk [] .nil ⟨bad_ret fun hs => ?_, rfl⟩
          have ee := (es.1 (hI.1 hs)).1
          omega
        have h4 : ¬ 191 < byteN l 2 := fun q => h (Int.ofNat_lt.2 q)
        clear h
        refine fork (fun h => go ?_) (fun h => go ?_)
        · replace h : byteN l 3 < 128 := Int.ofNat_lt.1 h
          refine VRet.mk [] .nil ⟨bad_ret fun hs => ?_, rfl⟩
          have ee := (es.1 (hI.1 hs)).1
          omega
        have h5 : ¬ byteN l 3 < 128 := fun q => h (Int.ofNat_lt.2 q)
        clear h
        refine fork (fun h => go ?_) (fun h => go ?_)
        · replace h : 191 < byteN l 3 := Int.ofNat_lt.1 h
          refine VRet.mk [] .nil ⟨bad_ret fun hs => ?_, rfl⟩
          have ee := (es.1 (hI.1 hs)).1
          omega
        have h6 : ¬ 191 < byteN l 3 := fun q => h (Int.ofNat_lt.2 q)
        clear h
        refine ⟨l.drop 4, ⟨by rw [List.length_drop]; omega, hI.trans (es.trans ⟨fun h => h.2, fun h => ⟨?_, h⟩⟩)⟩, by rw [List.length_drop]; omega, rfl, .nil⟩
        omega
      · refine VInt.to 4 (by decide) (by decide) (by decide) (go ?_)
        refine VLay.mk [.int .u8 (128 : Nat), .int .u8 (191 : Nat)] rfl (lay_acc' (i := 0) (by decide) rfl rfl rfl) (go ?_)
        have es := fault_slow hne (sz := 4) (lo := 128) (hi := 191) (by omega) (by rw [hxe]) (by rw [hxe]; rfl) (by rw [hxe]; rfl) (by decide)
        unfold okN at es
        refine VAll.mk (fun b => go ?_)
        refine fork (fun h => go ?_) (fun h => go ?_)
        · replace h : l.length < 4 := Int.ofNat_lt.1 h
          refine VRet.mk [] .nil ⟨bad_ret fun hs => ?_, rfl⟩
          have ee := (es.1 (hI.1 hs)).1
          omega
        have h0 : ¬ l.length < 4 := fun q => h (Int.ofNat_lt.2 q)
        clear h
        refine fork (fun h => go ?_) (fun h => go ?_)
        · replace h : byteN l 1 < 128 := Int.ofNat_lt.1 h
          refine VRet.mk [] .nil ⟨bad_ret fun hs => ?_, rfl⟩
          have ee := (es.1 (hI.1 hs)).1
          omega
        have h1 : ¬ byteN l 1 < 128 := fun q => h (Int.ofNat_lt.2 q)
        clear h
        refine fork (fun h => go ?_) (fun h => go ?_)
        · replace h : 191 < byteN l 1 := Int.ofNat_lt.1 h
          refine VRet.mk [] .nil ⟨bad_ret fun hs => ?_, rfl⟩
          have ee := (es.1 (hI.1 hs)).1
          omega
        have h2 : ¬ 191 < byteN l 1 := fun q => h (Int.ofNat_lt.2 q)
        clear h
        refine fork (fun h => go ?_) (fun h => go ?_)
        · replace h : byteN l 2 < 128 := Int.ofNat_lt.1 h
          refine VRet.mk [] .nil ⟨bad_ret fun hs => ?_, rfl⟩
          have ee := (es.1 (hI.1 hs)).1
          omega
        have h3 : ¬ byteN l 2 < 128 := fun q => h (Int.ofNat_lt.2 q)
        clear h
        refine fork (fun h => go ?_) (fun h => go ?_)
        · replace h : 191 < byteN l 2 := Int.ofNat_lt.1 h
          refine VRet.mk [] .nil ⟨bad_ret fun hs => ?_, rfl⟩
          have ee := (es.1 (hI.1 hs)).1
          omega
        have h4 : ¬ 191 < byteN l 2 := fun q => h (Int.ofNat_lt.2 q)
        clear h
        refine fork (fun h => go ?_) (fun h => go ?_)
        · replace h : byteN l 3 < 128 := Int.ofNat_lt.1 h
          refine VRet.mk [] .nil ⟨bad_ret fun hs => ?_, rfl⟩
          have ee := (es.1 (hI.1 hs)).1
          omega
        have h5 : ¬ byteN l 3 < 128 := fun q => h (Int.ofNat_lt.2 q)
        clear h
        refine fork (fun h => go ?_) (fun h => go ?_)
        · replace h : 191 < byteN l 3 := Int.ofNat_lt.1 h
          refine VRet.mk [] .nil ⟨bad_ret fun hs => ?_, rfl⟩
          have ee := (es.1 (hI.1 hs)).1
          omega
        have h6 : ¬ 191 < byteN l 3 := fun q => h (Int.ofNat_lt.2 q)
        clear h
        refine ⟨l.drop 4, ⟨by rw [List.length_drop]; omega, hI.trans (es.trans ⟨fun h => h.2, fun h => ⟨?_, h⟩⟩)⟩, by rw [List.length_drop]; omega, rfl, .nil⟩
        omega
      · refine VInt.to 4 (by decide) (by decide) (by decide) (go ?_)
        refine VLay.mk [.int .u8 (128 : Nat), .int .u8 (143 : Nat)] rfl (lay_acc' (i := 4) (by decide) rfl rfl rfl) (go ?_)
        have es := fault_slow hne (sz := 4) (lo := 128) (hi := 143) (by omega) (by rw [hxe]) (by rw [hxe]; rfl) (by rw [hxe]; rfl) (by decide)
        unfold okN at es
        refine VAll.mk (fun b => go ?_)
        refine fork (fun h => go ?_) (fun h => go ?_)
        · replace h : l.length < 4 := Int.ofNat_lt.1 h
          refine VRet.mk [] .nil ⟨bad_ret fun hs => ?_, rfl⟩
          have ee := (es.1 (hI.1 hs)).1
          omega
        have h0 : ¬ l.length < 4 := fun q => h (Int.ofNat_lt.2 q)
        clear h
        refine fork (fun h => go ?_) (fun h => go ?_)
        · replace h : byteN l 1 < 128 := Int.ofNat_lt.1 h
          refine VRet.mk [] .nil ⟨bad_ret fun hs => ?_, rfl⟩
          have ee := (es.1 (hI.1 hs)).1
          omega
        have h1 : ¬ byteN l 1 < 128 := fun q => h (Int.ofNat_lt.2 q)
        clear h
        refine fork (fun h => go ?_) (fun h => go ?_)
        · replace h : 143 < byteN l 1 := Int.ofNat_lt.1 h
          refine VRet.mk [] .nil ⟨bad_ret fun hs => ?_, rfl⟩
          have ee := (es.1 (hI.1 hs)).1
          omega
        have h2 : ¬ 143 < byteN l 1 := fun q => h (Int.ofNat_lt.2 q)
        clear h
        refine fork (fun h => go ?_) (fun h => go ?_)
        · replace h : byteN l 2 < 128 := Int.ofNat_lt.1 h
          refine VRet.mk [] .nil ⟨bad_ret fun hs => ?_, rfl⟩
          have ee := (es.1 (hI.1 hs)).1
          omega
        have h3 : ¬ byteN l 2 < 128 := fun q => h (Int.ofNat_lt.2 q)
        clear h
        refine fork (fun h => go ?_) (fun h => go ?_)
        · replace h : 191 < byteN l 2 := Int.ofNat_lt.1 h
          refine VRet.mk [] .nil ⟨bad_ret fun hs => ?_, rfl⟩
          have ee := (es.1 (hI.1 hs)).1
          omega
        have h4 : ¬ 191 < byteN l 2 := fun q => h (Int.ofNat_lt.2 q)
        clear h
        refine fork (fun h => go ?_) (fun h => go ?_)
        · replace h : byteN l 3 < 128 := Int.ofNat_lt.1 h
          refine VRet.mk [] .nil ⟨bad_ret fun hs => ?_, rfl⟩
          have ee := (es.1 (hI.1 hs)).1
          omega
        have h5 : ¬ byteN l 3 < 128 := fun q => h (Int.ofNat_lt.2 q)
        clear h
        refine fork (fun h => go ?_) (fun h => go ?_)
        · replace h : 191 < byteN l 3 := Int.ofNat_lt.1 h
          refine VRet.mk [] .nil ⟨bad_ret fun hs => ?_, rfl⟩
          have ee := (es.1 (hI.1 hs)).1
          omega
        have h6 : ¬ 191 < byteN l 3 := fun q => h (Int.ofNat_lt.2 q)
        clear h
        refine ⟨l.drop 4, ⟨by rw [List.length_drop]; omega, hI.trans (es.trans ⟨fun h => h.2, fun h => ⟨?_, h⟩⟩)⟩, by rw [List.length_drop]; omega, rfl, .nil⟩
        omega
      · refine VInt.to 1 (by decide) (by decide) (by decide) (go ?_)
        refine VLay.mk [.int .u8 (0 : Nat), .int .u8 (0 : Nat)] rfl (lay_acc' (i := 15) (by decide) rfl rfl rfl) (go ?_)
        refine VAll.mk (fun b => go ?_)
        refine VRet.mk [] .nil ⟨congrArg (fun b => AOut.ret (.bool b)) (Eq.symm (decide_eq_false fun hs => ?_)), rfl⟩
        exact fault_bad hne hxe (hI.1 hs)
  · have e : l = [] := List.length_eq_zero_iff.1 (by omega)
    subst e
    refine VRet.mk [] .nil ?_
    have : faultR s = none := by rw [hI]; rfl
    simp [this]
end Go.Proofs.YtliabblchkgclaaDoor

namespace Go.Proofs.YtliabblchkgclaaDoor
open Go Go.Av
abbrev PE := Int × Int
structure RS where
  l : List Tok
  opn : Nat
  sz : Nat
abbrev PR (α : Type) := Except PE (α × RS)
def reservedL : List (List UInt8) := [[58], [59], [40], [41], [45, 45], [91], [93], [123], [125], [116], [102]]
def reservedR (s : List UInt8) : Bool := reservedL.contains s
def countR (p : Int) (s : RS) : Except PE RS :=
  if 0 < s.opn then (if 1024 < s.sz + 1 then .error (p, 11) else .ok { s with sz := s.sz + 1 }) else .ok s
def enterR (p : Int) (s : RS) : Except PE RS :=
  if 32 < s.opn + 1 then .error (p, 11) else countR p { s with opn := s.opn + 1, sz := if s.opn + 1 = 1 then 0 else s.sz }
def atR (fin : Int) (l : List Tok) : Int := match l with
  | [] => fin
  | t :: _ => t.pos
def peekR (l : List Tok) : Option (List UInt8) := match l with
  | [] => none
  | t :: _ => if t.kind = 1 then some t.text else none
def takeR (fin : Int) (s : RS) : PR Tok := match s.l with
  | [] => .error (fin, 9)
  | t :: r => .ok (t, { s with l := r })
mutual
def litR (fin : Int) : Nat → RS → PR (Option Tree)
  | 0, _ => .error (0, -1)
  | k + 1, s => match s.l with
    | [] => .ok (none, s)
    | t :: r =>
      if t.kind = 2 then (match countR t.pos { s with l := r } with
        | .error e => .error e
        | .ok s' => .ok (some (.int t.n), s'))
      else if t.kind = 3 then (match countR t.pos { s with l := r } with
        | .error e => .error e
        | .ok s' => .ok (some (.str t.text), s'))
      else if t.text = [116] ∨ t.text = [102] then (match countR t.pos { s with l := r } with
        | .error e => .error e
        | .ok s' => .ok (some (.bool (decide (t.text = [116]))), s'))
      else if t.text = [91] then (match enterR t.pos { s with l := r } with
        | .error e => .error e
        | .ok s1 => match itemsR fin k [93] s1 [] with
          | .error e => .error e
          | .ok (ys, s2) => .ok (some (.quot ys), { s2 with opn := s2.opn - 1 }))
      else if t.text = [123] then (match enterR t.pos { s with l := r } with
        | .error e => .error e
        | .ok s1 => match valsR fin k s1 [] with
          | .error e => .error e
          | .ok (ys, s2) => .ok (some (.list ys), { s2 with opn := s2.opn - 1 }))
      else .ok (none, s)
def itemR (fin : Int) : Nat → RS → PR (Option Tree)
  | 0, _ => .error (0, -1)
  | k + 1, s => match litR fin k s with
    | .error e => .error e
    | .ok (some v, s') => .ok (some v, s')
    | .ok (none, s') => match peekR s'.l with
      | none => .ok (none, s')
      | some w => if reservedR w then .ok (none, s') else match takeR fin s' with
        | .error e => .error e
        | .ok (t, s1) => match countR t.pos s1 with
          | .error e => .error e
          | .ok s2 => .ok (some (.call w), s2)
def itemsR (fin : Int) : Nat → List UInt8 → RS → List Tree → PR (List Tree)
  | 0, _, _, _ => .error (0, -1)
  | k + 1, shut, s, acc => if peekR s.l = some shut then (match takeR fin s with
      | .error e => .error e
      | .ok (_, s') => .ok (acc, s'))
    else match itemR fin k s with
      | .error e => .error e
      | .ok (none, s') => .error (atR fin s'.l, 9)
      | .ok (some y, s') => itemsR fin k shut s' (acc ++ [y])
def valsR (fin : Int) : Nat → RS → List Tree → PR (List Tree)
  | 0, _, _ => .error (0, -1)
  | k + 1, s, acc => if peekR s.l = some [125] then (match takeR fin s with
      | .error e => .error e
      | .ok (_, s') => .ok (acc, s'))
    else match litR fin k s with
      | .error e => .error e
      | .ok (none, s') => .error (atR fin s'.l, 9)
      | .ok (some y, s') => valsR fin k s' (acc ++ [y])
end
def wordR (fin : Int) (want : List UInt8) (s : RS) : PR (List UInt8) := match peekR s.l with
  | none => .error (atR fin s.l, 9)
  | some w => if (want ≠ [] ∧ w ≠ want) ∨ (want = [] ∧ reservedR w = true) then .error (atR fin s.l, 9) else match takeR fin s with
    | .error e => .error e
    | .ok (_, s') => .ok (w, s')
def namesR (fin : Int) (shut : List UInt8) : Nat → RS → Nat → PR Nat
  | 0, _, _ => .error (0, -1)
  | k + 1, s, n => if peekR s.l = some shut then (match takeR fin s with
      | .error e => .error e
      | .ok (_, s') => .ok (n, s'))
    else match wordR fin [] s with
      | .error e => .error e
      | .ok (_, s') => if 16 < n + 1 then .error (atR fin s.l, 11) else namesR fin shut k s' (n + 1)
structure DefT where
  name : List UInt8
  inn : Nat
  out : Nat
  body : List Tree
/-- As many steps as suffice. -/
def fuel (s : RS) : Nat := 3 * s.l.length + 3
def defineR (fin : Int) (p : Int) (s : RS) : PR DefT := match enterR p s with
  | .error e => .error e
  | .ok s1 => match wordR fin [] s1 with
    | .error e => .error e
    | .ok (nm, s2) => match wordR fin [40] s2 with
      | .error e => .error e
      | .ok (_, s3) => match namesR fin [45, 45] (fuel s3) s3 0 with
        | .error e => .error e
        | .ok (i, s4) => match namesR fin [41] (fuel s4) s4 0 with
          | .error e => .error e
          | .ok (o, s5) => match itemsR fin (fuel s5) [59] s5 [] with
            | .error e => .error e
            | .ok (b, s6) => .ok (⟨nm, i, o, b⟩, { s6 with opn := s6.opn - 1 })
inductive FormT where
  | define (d : DefT)
  | item (t : Tree)
def formsR (fin : Int) : Nat → RS → List FormT → PR (List FormT)
  | 0, _, _ => .error (0, -1)
  | k + 1, s, acc => if peekR s.l = some [58] then (match takeR fin s with
      | .error e => .error e
      | .ok (t, s1) => match defineR fin t.pos s1 with
        | .error e => .error e
        | .ok (d, s2) => formsR fin k s2 (acc ++ [.define d]))
    else match itemR fin (fuel s) s with
      | .error e => .error e
      | .ok (none, s') => .ok (acc, s')
      | .ok (some y, s') => formsR fin k s' (acc ++ [.item y])
def onlyR (fin : Int) : Nat → RS → List Tree → PR (List Tree)
  | 0, _, _ => .error (0, -1)
  | k + 1, s, acc => match itemR fin (fuel s) s with
      | .error e => .error e
      | .ok (none, s') => .ok (acc, s')
      | .ok (some y, s') => onlyR fin k s' (acc ++ [y])
def finR {α : Type} (fin : Int) (x : PR (List α)) : List α × Int × Int := match x with
  | .error e => ([], e.1, e.2)
  | .ok x => if x.2.l ≠ [] then ([], atR fin x.2.l, 9) else (x.1, 0, 0)
def readR {α : Type} (s : List UInt8) (what : RS → PR (List α)) : List α × Int × Int :=
  if (tokensR s).2.2 ≠ 0 then ([], (tokensR s).2.1, (tokensR s).2.2) else finR s.length (what ⟨(tokensR s).1, 0, 0⟩)
def parseR (s : List UInt8) : List FormT × Int × Int := readR s fun r => formsR s.length (r.l.length + 1) r []
def itemsOnlyR (s : List UInt8) : List Tree × Int × Int := readR s fun r => onlyR s.length (r.l.length + 1) r []
end Go.Proofs.YtliabblchkgclaaDoor

namespace Go.Proofs.YtliabblchkgclaaDoor
open Go Go.Av
structure TokI where
  o : Option Nat
  p : Nat
  out : List Tok
theorem f18_nat (r : Nat) (hr : r ≤ 1114111) : Av.Fn Tryd.prog 69 [.int .i32 r] (.bool (blankB r)) := f18_of r (by omega)
theorem take_toksC (l : List Tok) : (toksC l).take (l.length * 4) = toksC l := List.take_of_length_le (by simp)






end Go.Proofs.YtliabblchkgclaaDoor

namespace Go.Proofs.YtliabblchkgclaaDoor
open Go Go.Av
def rbox (fin b : Nat) (s : RS) : Nat × AObj := (b, .box [.fz (toksC s.l) s.l.length false, .int .i64 fin, .int .i64 s.opn, .int .i64 s.sz])
def peekV (x : Option (List UInt8)) : AV := match x with
  | none => .tup [.str [], .bool false]
  | some w => .tup [.str w, .bool true]


theorem drop_toksC (t : Tok) (r : List Tok) : List.drop 4 (List.take ((r.length + 1) * 4) (toksC (t :: r))) = toksC r := by
  rw [show (r.length + 1) * 4 = (t :: r).length * 4 from rfl, take_toksC]; rfl
def idxL (s : List UInt8) : List (List UInt8) → Int
  | [] => -1
  | x :: r => if s = x then 0 else if idxL s r < 0 then -1 else idxL s r + 1
theorem idxL_has (s : List UInt8) : ∀ l : List (List UInt8), decide (0 ≤ idxL s l) = l.contains s
  | [] => by simp [idxL]
  | x :: r => by
    have ih := idxL_has s r
    rw [List.contains_cons, ← ih, idxL]
    by_cases h : s = x
    · simp [h]
    · have : (s == x) = false := by simpa using h
      rw [if_neg h, this, Bool.false_or, decide_eq_decide]
      split <;> omega
theorem fn_Index (l : List (List UInt8)) (s : List UInt8) (hl : l.length ≤ 1000000) : Av.Fn Tryd.prog 76 [.fz (l.map .str) l.length false, .str s] (.int .i64 (idxL s l)) := by
  refine ACalls.of_W tb_ok (fn := Tryd.f76) (n := 19) (by kernel_rfl) rfl (by kernel_rfl) rfl rfl (by simp) (go ?_)
  refine VLoop.mk [8] Nat (fun i => [.int .i64 i]) (fun _ => []) (fun i => i ≤ l.length ∧ idxL s l = if idxL s (l.drop i) < 0 then -1 else idxL s (l.drop i) + i) (fun i => l.length - i) 0 ?_ ?_
  · refine ⟨⟨by omega, ?_⟩, rfl, .nil⟩
    have : -1 ≤ idxL s l := by
      cases l with
      | nil => simp [idxL]
      | cons x r => unfold idxL; repeat' split
                    all_goals omega
    simp; intro _; omega
  intro i ⟨hi, hI⟩
  refine go ?_
  refine fork (fun hlt => go ?_) (fun hlt => go ?_)
  · have hlt : i < l.length := by omega
    have hx : l[i]? = some l[i] := by simp [hlt]
    rw [List.drop_eq_getElem_cons hlt, idxL] at hI
    refine VNth.mk (.str l[i]) (by simp [hx]) (go ?_)
    refine fork (fun he => go ?_) (fun he => go ?_)
    · rw [if_pos he] at hI
      refine VRet.mk [] .nil ?_
      rw [hI]; simp
    · rw [if_neg he] at hI
      refine ⟨i + 1, ⟨by omega, ?_⟩, by omega, rfl, .nil⟩
      rw [hI]
      repeat' split
      all_goals omega
  · rw [List.drop_eq_nil_of_le (by omega), idxL] at hI
    refine VRet.mk [] .nil ?_
    rw [hI]; simp
theorem fn_Contains (l : List (List UInt8)) (s : List UInt8) (hl : l.length ≤ 1000000) : Av.Fn Tryd.prog 71 [.fz (l.map .str) l.length false, .str s] (.bool (l.contains s)) := by
  have h1 := fn_Index l s hl
  refine ACalls.of_W tb_ok (fn := Tryd.f71) (n := 9) (by kernel_rfl) rfl (by kernel_rfl) rfl rfl (by simp) (go ?_)
  refine Fn.use (h1) (go ?_)
  refine VRet.mk [] .nil ?_
  rw [idxL_has]; exact ⟨rfl, rfl⟩
theorem f_Reserved (s : List UInt8) : Av.Fn Tryd.prog 68 [.str s] (.bool (reservedR s)) := by
  have h := fn_Contains reservedL s (by decide)
  refine ACalls.of_W tb_ok (fn := Tryd.f68) (n := 6) (by kernel_rfl) rfl (by kernel_rfl) rfl rfl (by simp) (go ?_)
  refine Fn.use (h) (go ?_)
  refine VRet.mk [] .nil ?_
  exact ⟨rfl, rfl⟩
theorem takeR_less {fin : Int} {s : RS} {x : Tok × RS} (h : takeR fin s = .ok x) : x.2.l.length < s.l.length ∧ x.2.opn = s.opn ∧ x.2.sz = s.sz := by
  unfold takeR at h
  split at h
  · cases h
  · rename_i t r hl
    cases h
    rw [hl]
    exact ⟨by simp, rfl, rfl⟩
theorem wordR_less {fin : Int} {want : List UInt8} {s : RS} {x : List UInt8 × RS} (h : wordR fin want s = .ok x) : x.2.l.length < s.l.length ∧ x.2.opn = s.opn ∧ x.2.sz = s.sz := by
  unfold wordR at h
  split at h
  · cases h
  · split at h
    · cases h
    · split at h
      · cases h
      · rename_i t s' ht
        cases h
        exact takeR_less ht
structure NmI where
  k : Nat
  s : RS
  n : Nat

end Go.Proofs.YtliabblchkgclaaDoor
