/- Effects: control. Conditions: as each says. Effects: move. Conditions: as each says. Effects: run. Conditions: as each says. Effects: Of. Conditions: as each says. Trees of the reference as values and items: plain Lean and the walks. Conditions: as each says. Codes and operations: in memory, and in plain Lean. Conditions: none. The reference's trees and the items they stand for measure alike; what is sound is small. Conditions: as each says. Codes and operations: the document's answer and the program's, in plain Lean. Conditions: none. -/
import Derived.Test.YtliabblchkgclaaGreatDoorX9
import Derived.Test.YtliabblchkgclaaGreatDoorX8
import Derived.Test.YtliabblchkgclaaGreatDoorX7
set_option linter.all false
set_option maxRecDepth 20000
namespace Go.Proofs.YtliabblchkgclaaGreatDoor
open Go Go.Av
section
variable {known : List UInt8 → Option (Int × Int)} {bf bw bm n l : Nat} {ents : List (AV × AV)} {o : LR} {s : EfS} {Post : AOut → St → Prop}
theorem permE (A E B : St) : (A ++ (E ++ B)).Perm (E ++ (B ++ A)) := by
  have := List.perm_append_comm (l₁ := A) (l₂ := E ++ B)
  rwa [List.append_assoc E B A] at this
theorem pop_c (E : St) {x : Slot} {t : EfS} (hv : popS s = (x, t)) (ho : okL o s) (hs : Fine s) (k : ∀ o', okL o' t → Post (.ret (.agg (slotC x))) (E ++ (WM bw bm ents l ++ FS bf bm bw o' t))) :
    ACalls Tryz.prog 157 [.ptr bf 0] (E ++ (WM bw bm ents l ++ FS bf bm bw o s)) Post := by
  have h := pop_use (Post := Post) (bm := bm) (bw := bw) (bf := bf) (st := E ++ (WM bw bm ents l ++ FS bf bm bw o s)) (R := E ++ WM bw bm ents l) ho hs (permE _ _ _)
  rw [hv] at h
  exact h fun o' h => by rw [List.append_assoc]; exact k o' h
theorem need_c {b : Bool} {st : St} (k1 : b = true → Post (.ret (.tup [])) st) (k2 : b = false → Post (.panic (stopV 12)) st) : ACalls Tryz.prog 160 [.bool b] st Post := by
  refine ACalls.usep (f_need b) (R := st) (List.Perm.refl _) ?_
  rintro out s' ⟨rfl, h⟩
  rw [List.append_nil]
  cases b with
  | true => rw [h]; exact k1 rfl
  | false => rw [h]; exact k2 rfl
theorem quot_c (E : St) (ho : okL o s) (hs : Fine s) (k1 : ∀ q t o', quotS s = .ok (q, t) → okL o' t → Post (.ret (.fz (itemAVs q) q.length false)) (E ++ (WM bw bm ents l ++ FS bf bm bw o' t)))
    (k2 : ∀ e, quotS s = .error e → Post (.panic (stopV e)) (E ++ WM bw bm ents l)) :
    ACalls Tryz.prog 158 [.ptr bf 0] (E ++ (WM bw bm ents l ++ FS bf bm bw o s)) Post := by
  refine ACalls.usep (f_quot bf bm bw o s ho hs) (R := E ++ WM bw bm ents l) (permE _ _ _) ?_
  intro out s' h
  unfold QuotP at h
  split at h
  · rename_i q t e
    obtain ⟨rfl, o', h1, rfl⟩ := h
    rw [List.append_assoc]; exact k1 q t o' e h1
  · rename_i e he
    obtain ⟨rfl, rfl⟩ := h
    rw [List.append_nil]; exact k2 e he
theorem run_c (E : St) {q : List Tree} {st : St} (hp : (E ++ (WM bw bm ents l ++ FS bf bm bw o s)).Perm st) (hl : s.left = l) (hR : RunC known bw bm ents n) (hn : s.left ≤ n) (ho : okL o s) (hb : Bud s) (hg : GoodS s) (hq : q.length ≤ 2513169434916) (hgq : goodIs q = true)
    (k1 : ∀ t o', runL known q s = .ok t → okL o' t → GoodS t → Post (.ret (.tup [])) (E ++ (WM bw bm ents t.left ++ FS bf bm bw o' t))) (k2 : ∀ e, runL known q s = .error e → Post (.panic (stopV e)) E) :
    ACalls Tryz.prog 131 [.ptr bf 0, .fz (itemAVs q) q.length false] st Post := by
  subst hl
  refine ACalls.usep (hR bf o s q hn ho hb hg hq hgq) (R := E) (List.perm_append_comm.trans hp) ?_
  intro out s' h
  unfold RunP at h
  split at h
  · rename_i t e
    obtain ⟨rfl, h1, o', h2, rfl⟩ := h
    exact k1 t o' e h2 h1
  · rename_i e he
    obtain ⟨rfl, rfl⟩ := h
    rw [List.append_nil]; exact k2 e he
theorem own_c (E : St) {q : List Tree} (hl : s.left = l) (hR : RunC known bw bm ents n) (hn : s.left ≤ n) (hl2 : s.left ≤ 4096) (hq : q.length ≤ 2513169434916) (hgq : goodIs q = true)
    (k1 : ∀ i u t, ownS (runL known) q s = .ok (i, u, t) → Post (.ret (.agg [.int .i64 i, .int .i64 u])) (E ++ (WM bw bm ents t.left ++ FS bf bm bw o t))) (k2 : ∀ e, ownS (runL known) q s = .error e → Post (.panic (stopV e)) E) :
    ACalls Tryz.prog 159 [.ptr bf 0, .fz (itemAVs q) q.length false] (E ++ (WM bw bm ents l ++ FS bf bm bw o s)) Post := by
  subst hl
  refine ACalls.usep (f_own hR bf o s q hn hl2 hq hgq) (R := E) List.perm_append_comm ?_
  intro out s' h
  unfold OwnP at h
  split at h
  · rename_i i u t e
    obtain ⟨rfl, rfl⟩ := h
    exact k1 i u t e
  · rename_i e he
    obtain ⟨rfl, rfl⟩ := h
    rw [List.append_nil]; exact k2 e he
theorem apply_c (E : St) {i u : Int} (ho : okL o s) (hs : 0 ≤ s.inn ∧ s.inn ≤ 1000000 ∧ s.stk.length ≤ 1000000) (hi : i.toNat ≤ 65536) (hu : u.toNat ≤ 65536)
    (k : ∀ o', okL o' (applyS i.toNat u.toNat s) → Post (.ret (.tup [])) (E ++ (WM bw bm ents l ++ FS bf bm bw o' (applyS i.toNat u.toNat s)))) :
    ACalls Tryz.prog 148 [.ptr bf 0, .agg [.int .i64 i, .int .i64 u]] (E ++ (WM bw bm ents l ++ FS bf bm bw o s)) Post := by
  refine ACalls.usep (f_apply bf bm bw o s i u ho hs hi hu) (R := E ++ WM bw bm ents l) (permE _ _ _) ?_
  rintro out s' ⟨rfl, o', h1, rfl⟩
  rw [List.append_assoc]; exact k o' h1
end
theorem fs_app {bf bm bw bl : Nat} {s : EfS} {x : Slot} (junk : List AV) : FS bf bm bw (some (bl, [])) (pushS s x) =
    [(bf, .box [.mapr bm, .ptr bw 0, .int .i64 s.inn, .own bl (s.stk.length + 1)]), (bl, .arr 2 ((slotsC s.stk.reverse ++ junk).take (mulN s.stk.length 2) ++ slotC x) 0)] := by
  rw [app_cells]; rfl
/-- What control answers. -/
def CtlP (bf bw bm : Nat) (ents : List (AV × AV)) (o : LR) (s : EfS) (r : Option (Except Int EfS)) (out : AOut) (st : St) : Prop := match r with
  | none => out = .ret (.bool false) ∧ st = WM bw bm ents s.left ++ FS bf bm bw o s
  | some r => RunP bf bw bm ents (.bool true) r out st






set_option maxHeartbeats 4000000 in
theorem f_control {known : List UInt8 → Option (Int × Int)} {bw bm : Nat} {ents : List (AV × AV)} {n : Nat} (hk : ∀ n i o, known n = some (i, o) → 0 ≤ i ∧ i ≤ 16 ∧ 0 ≤ o ∧ o ≤ 16) (hR : RunC known bw bm ents n) (bf : Nat) (o : LR) (s : EfS) (name : List UInt8)
    (hn : s.left ≤ n) (ho : okL o s) (hb : 0 ≤ s.inn ∧ s.inn + 16 * s.left + 16 ≤ 100000 ∧ s.stk.length + 16 * s.left + 16 ≤ 100000 ∧ s.left ≤ 4096) (hg : GoodS s) :
    ACalls Tryz.prog 147 [.ptr bf 0, .str name] (WM bw bm ents s.left ++ FS bf bm bw o s) (CtlP bf bw bm ents o s (controlS (runL known) name s)) := by
  have hfs : Fine s := ⟨hb.1, by omega, by omega⟩
  have hgq : ∀ {s t : EfS} {q : List Tree}, GoodS s → quotS s = .ok (q, t) → q.length ≤ 2513169434916 ∧ goodIs q = true ∧ GoodS t ∧ Gr 1 0 s t ∧ t.left = s.left := by
    intro s t q hg h
    obtain ⟨h1, h2⟩ := quotS_gr h
    unfold quotS at h
    have hp := hg.pop
    split at h
    · rename_i l u e
      rw [e] at hp
      cases h
      exact ⟨(hp.1 q rfl).1, (hp.1 q rfl).2, hp.2, h1, h2⟩
    · cases h
  unfold controlS
  refine ACalls.of_W tb_ok (fn := Tryz.f147) (n := 183) (by kernel_rfl) rfl (by kernel_rfl) rfl rfl (by simp) (go ?_)
  refine fork (fun h1 => go ?_) (fun h1 => go ?_)
  · have h1 : name = [99, 97, 108, 108] := by simpa using h1
    rw [if_pos h1]
    refine quot_c [] ho hfs (fun q t o1 e ho1 => ?_) (fun e he => ?_)
    · obtain ⟨q1, q2, q3, q4, q5⟩ := hgq hg e
      obtain ⟨r1, r2, r3, r4⟩ := q4
      refine go ?_
      refine run_c [] (List.Perm.refl _) q5 hR (by omega) ho1 ⟨by omega, by omega, by omega, by omega⟩ q3 q1 q2 (fun u o2 e2 ho2 hg2 => ?_) (fun e2 he2 => ?_)
      · refine go ?_
        refine VRet.mk _ (VSel.refl _) ?_
        rw [e]
        show RunP bf bw bm ents (.bool true) (runL known q t) _ _
        rw [e2]
        exact ⟨rfl, hg2, o2, ho2, rfl⟩
      · refine go ?_
        refine VRet.mk [] .nil ?_
        rw [e]
        show RunP bf bw bm ents (.bool true) (runL known q t) _ _
        rw [he2]
        exact ⟨rfl, rfl⟩
    · refine go ?_
      refine VRet.mk [] .nil ?_
      rw [he]
      exact ⟨rfl, rfl⟩
  rw [if_neg (by simpa using h1)]
  refine fork (fun h2 => go ?_) (fun h2 => go ?_)
  · have h2 : name = [100, 105, 112] := by simpa using h2
    rw [if_pos h2]
    refine quot_c [] ho hfs (fun q t o1 e ho1 => ?_) (fun e he => ?_)
    · obtain ⟨q1, q2, q3, q4, q5⟩ := hgq hg e
      obtain ⟨r1, r2, r3, r4⟩ := q4
      obtain ⟨x, v, hv⟩ : ∃ x v, popS t = (x, v) := ⟨_, _, rfl⟩
      have hv1 : (popS t).1 = x := by rw [hv]
      have hv2 : (popS t).2 = v := by rw [hv]
      obtain ⟨p1, p2, p3, p4⟩ := popS_gr t
      have p5 := popS_left t
      obtain ⟨g1, g2⟩ := q3.pop
      rw [hv2] at p1 p2 p3 p4 p5 g2
      rw [hv1] at g1
      refine go ?_
      refine pop_c [] hv ho1 ⟨by omega, by omega, by omega⟩ fun o2 ho2 => ?_
      refine go ?_
      refine VAll.mk (fun b6 => go ?_)
      refine run_c [(b6, .box (slotC x))] (List.Perm.refl _) (by omega) hR (by omega) ho2 ⟨by omega, by omega, by omega, by omega⟩ g2 q1 q2 (fun u o3 e2 ho3 hg3 => ?_) (fun e2 he2 => ?_)
      · have hgr := (runL_gr hk e2).len
        obtain ⟨Ul, Ui, Uk⟩ := u
        simp only [pushS, List.length_cons] at hgr
        have hfin : RunP bf bw bm ents (.bool true) ((match runL known q v with | .error e => .error e | .ok u => .ok (pushS u x))) = RunP bf bw bm ents (.bool true) (.ok (pushS ⟨Ul, Ui, Uk⟩ x)) := by rw [e2]
        cases o3 with
        | none =>
          obtain rfl : Uk = [] := ho3 rfl
          refine go ?_
          refine VDraw.chain [7, 10] (go ?_)
          refine VAll.mk (fun b9 => go ?_)
          refine VRet.mk (WM bw bm ents Ul ++ FS bf bm bw (some (b9, [])) (pushS ⟨Ul, Ui, []⟩ x)) (.cons 2 rfl (.cons 2 rfl (.cons 2 rfl (.cons 0 rfl .nil)))) ?_
          rw [e]
          dsimp only
          rw [hv1, hv2]
          show RunP bf bw bm ents (.bool true) ((match runL known q v with | .error e => .error e | .ok u => .ok (pushS u x))) _ _
          rw [hfin]
          exact ⟨rfl, hg3.push g1, some (b9, []), (fun h => by cases h), rfl⟩
        | some y =>
          obtain ⟨b0, junk⟩ := y
          refine go ?_
          refine VDraw.chain [7, 10] (go ?_)
          refine VGd.mk ⟨rfl, Nat.zero_le _, app_len _ _, by dsimp only; omega⟩ (go ?_)
          refine VAll.mk (fun b9 => go ?_)
          refine VRet.mk (WM bw bm ents Ul ++ FS bf bm bw (some (b9, [])) (pushS ⟨Ul, Ui, Uk⟩ x)) (by rw [fs_app junk]; exact .cons 2 rfl (.cons 2 rfl (.cons 2 rfl (.cons 0 rfl .nil)))) ?_
          rw [e]
          dsimp only
          rw [hv1, hv2]
          show RunP bf bw bm ents (.bool true) ((match runL known q v with | .error e => .error e | .ok u => .ok (pushS u x))) _ _
          rw [hfin]
          exact ⟨rfl, hg3.push g1, some (b9, []), (fun h => by cases h), rfl⟩
      · refine go ?_
        refine VRet.mk [] .nil ?_
        rw [e]
        dsimp only
        rw [hv1, hv2]
        show RunP bf bw bm ents (.bool true) ((match runL known q v with | .error e => .error e | .ok u => .ok (pushS u x))) _ _
        rw [he2]
        exact ⟨rfl, rfl⟩
    · refine go ?_
      refine VRet.mk [] .nil ?_
      rw [he]
      exact ⟨rfl, rfl⟩
  rw [if_neg (by simpa using h2)]
  refine fork (fun h3 => go ?_) (fun h3 => go ?_)
  · have h3 : name = [107, 101, 101, 112] := by simpa using h3
    rw [if_pos h3]
    refine quot_c [] ho hfs (fun q t o1 e ho1 => ?_) (fun e he => ?_)
    · obtain ⟨q1, q2, q3, q4, q5⟩ := hgq hg e
      obtain ⟨r1, r2, r3, r4⟩ := q4
      obtain ⟨x, v, hv⟩ : ∃ x v, popS t = (x, v) := ⟨_, _, rfl⟩
      have hv1 : (popS t).1 = x := by rw [hv]
      have hv2 : (popS t).2 = v := by rw [hv]
      obtain ⟨p1, p2, p3, p4⟩ := popS_gr t
      have p5 := popS_left t
      obtain ⟨g1, g2⟩ := q3.pop
      rw [hv2] at p1 p2 p3 p4 p5 g2
      rw [hv1] at g1
      refine go ?_
      refine pop_c [] hv ho1 ⟨by omega, by omega, by omega⟩ fun o2 ho2 => ?_
      have gx := g2.push g1
      obtain ⟨Vl, Vi, Vk⟩ := v
      dsimp only at p1 p2 p3 p4 p5
      cases o2 with
      | none =>
        obtain rfl : Vk = [] := ho2 rfl
        refine go ?_
        refine VAll.mk (fun b8 => go ?_)
        refine VDraw.chain [7, 10] (go ?_)
        refine VAll.mk (fun bl => go ?_)
        refine run_c (o := some (bl, [])) (s := pushS ⟨Vl, Vi, []⟩ x) (l := s.left) [(b8, .box (slotC x))] (by rw [fs_app []]; exact List.perm_append_comm (l₁ := [_, _, _, _]) (l₂ := [_])) (by show Vl = _; omega) hR (by show Vl ≤ _; omega) (fun h => by cases h) (by show 0 ≤ Vi ∧ Vi + 16 * Vl ≤ 100000 ∧ ([] : List Slot).length + 1 + 16 * Vl ≤ 100000 ∧ Vl ≤ 4096; (try dsimp only [List.length_nil] at *); omega) gx q1 q2 (fun u o3 e2 ho3 hg3 => ?_) (fun e2 he2 => ?_)
        · have hgr := (runL_gr hk e2).len
          obtain ⟨Ul, Ui, Uk⟩ := u
          simp only [pushS, List.length_cons] at hgr
          have hfin : RunP bf bw bm ents (.bool true) ((match runL known q (pushS ⟨Vl, Vi, []⟩ x) with | .error e => .error e | .ok u => .ok (pushS u x))) = RunP bf bw bm ents (.bool true) (.ok (pushS ⟨Ul, Ui, Uk⟩ x)) := by rw [e2]
          cases o3 with
          | none =>
            obtain rfl : Uk = [] := ho3 rfl
            refine go ?_
            refine VDraw.chain [7, 10] (go ?_)
            refine VAll.mk (fun b9 => go ?_)
            refine VRet.mk (WM bw bm ents Ul ++ FS bf bm bw (some (b9, [])) (pushS ⟨Ul, Ui, []⟩ x)) (.cons 2 rfl (.cons 2 rfl (.cons 2 rfl (.cons 0 rfl .nil)))) ?_
            rw [e]
            dsimp only
            rw [hv1, hv2]
            show RunP bf bw bm ents (.bool true) ((match runL known q (pushS ⟨Vl, Vi, []⟩ x) with | .error e => .error e | .ok u => .ok (pushS u x))) _ _
            rw [hfin]
            exact ⟨rfl, hg3.push g1, some (b9, []), (fun h => by cases h), rfl⟩
          | some y =>
            obtain ⟨b0, junk⟩ := y
            refine go ?_
            refine VDraw.chain [7, 10] (go ?_)
            refine VGd.mk ⟨rfl, Nat.zero_le _, app_len _ _, by dsimp only; omega⟩ (go ?_)
            refine VAll.mk (fun b9 => go ?_)
            refine VRet.mk (WM bw bm ents Ul ++ FS bf bm bw (some (b9, [])) (pushS ⟨Ul, Ui, Uk⟩ x)) (by rw [fs_app junk]; exact .cons 2 rfl (.cons 2 rfl (.cons 2 rfl (.cons 0 rfl .nil)))) ?_
            rw [e]
            dsimp only
            rw [hv1, hv2]
            show RunP bf bw bm ents (.bool true) ((match runL known q (pushS ⟨Vl, Vi, []⟩ x) with | .error e => .error e | .ok u => .ok (pushS u x))) _ _
            rw [hfin]
            exact ⟨rfl, hg3.push g1, some (b9, []), (fun h => by cases h), rfl⟩
        · refine go ?_
          refine VRet.mk [] .nil ?_
          rw [e]
          dsimp only
          rw [hv1, hv2]
          show RunP bf bw bm ents (.bool true) ((match runL known q (pushS ⟨Vl, Vi, []⟩ x) with | .error e => .error e | .ok u => .ok (pushS u x))) _ _
          rw [he2]
          exact ⟨rfl, rfl⟩
      | some y =>
        obtain ⟨bo, junk⟩ := y
        refine go ?_
        refine VAll.mk (fun b8 => go ?_)
        refine VDraw.chain [7, 10] (go ?_)
        refine VGd.mk ⟨rfl, Nat.zero_le _, app_len _ _, by dsimp only; omega⟩ (go ?_)
        refine VAll.mk (fun bl => go ?_)
        refine run_c (o := some (bl, [])) (s := pushS ⟨Vl, Vi, Vk⟩ x) (l := s.left) [(b8, .box (slotC x))] (by rw [fs_app junk]; exact List.perm_append_comm (l₁ := [_, _, _, _]) (l₂ := [_])) (by show Vl = _; omega) hR (by show Vl ≤ _; omega) (fun h => by cases h) (by show 0 ≤ Vi ∧ Vi + 16 * Vl ≤ 100000 ∧ (Vk : List Slot).length + 1 + 16 * Vl ≤ 100000 ∧ Vl ≤ 4096; (try dsimp only [List.length_nil] at *); omega) gx q1 q2 (fun u o3 e2 ho3 hg3 => ?_) (fun e2 he2 => ?_)
        · have hgr := (runL_gr hk e2).len
          obtain ⟨Ul, Ui, Uk⟩ := u
          simp only [pushS, List.length_cons] at hgr
          have hfin : RunP bf bw bm ents (.bool true) ((match runL known q (pushS ⟨Vl, Vi, Vk⟩ x) with | .error e => .error e | .ok u => .ok (pushS u x))) = RunP bf bw bm ents (.bool true) (.ok (pushS ⟨Ul, Ui, Uk⟩ x)) := by rw [e2]
          cases o3 with
          | none =>
            obtain rfl : Uk = [] := ho3 rfl
            refine go ?_
            refine VDraw.chain [7, 10] (go ?_)
            refine VAll.mk (fun b9 => go ?_)
            refine VRet.mk (WM bw bm ents Ul ++ FS bf bm bw (some (b9, [])) (pushS ⟨Ul, Ui, []⟩ x)) (.cons 2 rfl (.cons 2 rfl (.cons 2 rfl (.cons 0 rfl .nil)))) ?_
            rw [e]
            dsimp only
            rw [hv1, hv2]
            show RunP bf bw bm ents (.bool true) ((match runL known q (pushS ⟨Vl, Vi, Vk⟩ x) with | .error e => .error e | .ok u => .ok (pushS u x))) _ _
            rw [hfin]
            exact ⟨rfl, hg3.push g1, some (b9, []), (fun h => by cases h), rfl⟩
          | some y =>
            obtain ⟨b0, junk⟩ := y
            refine go ?_
            refine VDraw.chain [7, 10] (go ?_)
            refine VGd.mk ⟨rfl, Nat.zero_le _, app_len _ _, by dsimp only; omega⟩ (go ?_)
            refine VAll.mk (fun b9 => go ?_)
            refine VRet.mk (WM bw bm ents Ul ++ FS bf bm bw (some (b9, [])) (pushS ⟨Ul, Ui, Uk⟩ x)) (by rw [fs_app junk]; exact .cons 2 rfl (.cons 2 rfl (.cons 2 rfl (.cons 0 rfl .nil)))) ?_
            rw [e]
            dsimp only
            rw [hv1, hv2]
            show RunP bf bw bm ents (.bool true) ((match runL known q (pushS ⟨Vl, Vi, Vk⟩ x) with | .error e => .error e | .ok u => .ok (pushS u x))) _ _
            rw [hfin]
            exact ⟨rfl, hg3.push g1, some (b9, []), (fun h => by cases h), rfl⟩
        · refine go ?_
          refine VRet.mk [] .nil ?_
          rw [e]
          dsimp only
          rw [hv1, hv2]
          show RunP bf bw bm ents (.bool true) ((match runL known q (pushS ⟨Vl, Vi, Vk⟩ x) with | .error e => .error e | .ok u => .ok (pushS u x))) _ _
          rw [he2]
          exact ⟨rfl, rfl⟩
    · refine go ?_
      refine VRet.mk [] .nil ?_
      rw [he]
      exact ⟨rfl, rfl⟩
  rw [if_neg (by simpa using h3)]
  have hrg : ∀ q s t, runL known q s = .ok t → Gr 0 0 s t := fun q s t h => runL_gr hk h
  refine fork (fun h4 => go ?_) (fun h4 => go ?_)
  · have h4 : name = [105, 102] := by simpa using h4
    rw [if_pos h4]
    refine quot_c [] ho hfs (fun b t o1 e ho1 => ?_) (fun e he => ?_)
    · obtain ⟨q1, q2, q3, q4, q5⟩ := hgq hg e
      obtain ⟨r1, r2, r3, r4⟩ := q4
      rw [e]
      dsimp only
      refine go ?_
      refine quot_c [] ho1 ⟨by omega, by omega, by omega⟩ (fun a t2 o2 e2 ho2 => ?_) (fun e2 he2 => ?_)
      · obtain ⟨a1, a2, a3, a4, a5⟩ := hgq q3 e2
        obtain ⟨b1, b2, b3, b4⟩ := a4
        rw [e2]
        dsimp only
        obtain ⟨x, v, hv⟩ : ∃ x v, popS t2 = (x, v) := ⟨_, _, rfl⟩
        have hv2 : (popS t2).2 = v := by rw [hv]
        obtain ⟨p1, p2, p3, p4⟩ := popS_gr t2
        have p5 := popS_left t2
        obtain ⟨g1, g2⟩ := a3.pop
        rw [hv2] at p1 p2 p3 p4 p5 g2 ⊢
        refine go ?_
        refine pop_c [] hv ho2 ⟨by omega, by omega, by omega⟩ fun o3 ho3 => ?_
        refine go ?_
        refine own_c (l := s.left) [] (by omega) hR (by omega) (by omega) a1 a2 (fun ai ao w ea => ?_) (fun e3 he3 => ?_)
        · obtain ⟨c1, c2, c3, c4, c5, c6⟩ := ownS_gr hrg ea
          rw [ea]
          dsimp only
          refine go ?_
          refine own_c (l := w.left) [] rfl hR (by omega) (by omega) q1 q2 (fun bi bo z eb => ?_) (fun e3 he3 => ?_)
          · obtain ⟨d1, d2, d3, d4, d5, d6⟩ := ownS_gr hrg eb
            rw [eb]
            dsimp only
            refine go ?_
            refine VAll.mk (fun b11 => go ?_)
            refine VAll.mk (fun b12 => go ?_)
            refine need_c (fun hb => ?_) (fun hb => ?_)
            · have hb : ao - ai = bo - bi := by simpa using hb
              rw [if_pos hb]
              refine go ?_
              have e1 : z.stk = v.stk := by rw [d6, c6]
              have e4 : z.inn = v.inn := by rw [d6, c6]
              have ho5 : okL o3 z := fun h => by rw [e1]; exact ho3 h
              have hg5 : GoodS z := fun y hy => g2 y (by rw [← e1]; exact hy)
              refine apply_c (l := z.left) [_, _] ho5 ⟨by omega, by omega, by rw [e1]; omega⟩ (by omega) (by omega) fun o6 ho6 => ?_
              refine go ?_
              exact VRet.mk _ (VSel.skip (VSel.skip (VSel.refl _) _) _) ⟨rfl, hg5.apply _ _, o6, ho6, by rw [applyS_left]; rfl⟩
            · have hb : ¬ ao - ai = bo - bi := by simpa using hb
              rw [if_neg hb]
              refine go ?_
              exact VRet.mk [] .nil ⟨rfl, rfl⟩
          · rw [he3]
            refine go ?_
            exact VRet.mk [] .nil ⟨rfl, rfl⟩
        · rw [he3]
          refine go ?_
          exact VRet.mk [] .nil ⟨rfl, rfl⟩
      · rw [he2]
        refine go ?_
        exact VRet.mk [] .nil ⟨rfl, rfl⟩
    · refine go ?_
      refine VRet.mk [] .nil ?_
      rw [he]
      exact ⟨rfl, rfl⟩
  rw [if_neg (by simpa using h4)]
  refine fork (fun h5 => go ?_) (fun h5 => go ?_)
  · have h5 : name = [119, 104, 101, 110] := by simpa using h5
    rw [if_pos (.inl h5)]
    refine VIf.yes (by simpa using h5) (go ?_)
    refine quot_c [] ho hfs (fun q t o1 e ho1 => ?_) (fun e he => ?_)
    · obtain ⟨q1, q2, q3, q4, q5⟩ := hgq hg e
      obtain ⟨r1, r2, r3, r4⟩ := q4
      obtain ⟨x, v, hv⟩ : ∃ x v, popS t = (x, v) := ⟨_, _, rfl⟩
      have hv1 : (popS t).1 = x := by rw [hv]
      have hv2 : (popS t).2 = v := by rw [hv]
      obtain ⟨p1, p2, p3, p4⟩ := popS_gr t
      have p5 := popS_left t
      obtain ⟨g1, g2⟩ := q3.pop
      rw [hv2] at p1 p2 p3 p4 p5 g2
      rw [hv1] at g1
      refine go ?_
      rw [e]
      dsimp only
      rw [hv2]
      refine pop_c [] hv ho1 ⟨by omega, by omega, by omega⟩ fun o3 ho3 => ?_
      refine go ?_
      refine own_c (l := s.left) [] (by omega) hR (by omega) (by omega) q1 q2 (fun ai ao w ea => ?_) (fun e3 he3 => ?_)
      · obtain ⟨c1, c2, c3, c4, c5, c6⟩ := ownS_gr hrg ea
        rw [ea]
        dsimp only
        refine go ?_
        refine VAll.mk (fun b15 => go ?_)
        refine need_c (fun hb => ?_) (fun hb => ?_)
        · have hb : ai = ao := by simpa using hb
          rw [if_pos hb]
          refine go ?_
          have e1 : w.stk = v.stk := by rw [c6]
          have e4 : w.inn = v.inn := by rw [c6]
          have ho5 : okL o3 w := fun h => by rw [e1]; exact ho3 h
          have hg5 : GoodS w := fun y hy => g2 y (by rw [← e1]; exact hy)
          refine apply_c (l := w.left) [_] ho5 ⟨by omega, by omega, by rw [e1]; omega⟩ (by omega) (by omega) fun o6 ho6 => ?_
          refine go ?_
          exact VRet.mk _ (VSel.skip (VSel.refl _) _) ⟨rfl, hg5.apply _ _, o6, ho6, by rw [applyS_left]; rfl⟩
        · have hb : ¬ ai = ao := by simpa using hb
          rw [if_neg hb]
          refine go ?_
          exact VRet.mk [] .nil ⟨rfl, rfl⟩
      · rw [he3]
        refine go ?_
        exact VRet.mk [] .nil ⟨rfl, rfl⟩
    · refine go ?_
      refine VRet.mk [] .nil ?_
      rw [he]
      exact ⟨rfl, rfl⟩
  refine fork (fun h6 => go ?_) (fun h6 => go ?_)
  · have h6 : name = [116, 105, 109, 101, 115] := by simpa using h6
    rw [if_pos (.inr h6)]
    refine quot_c [] ho hfs (fun q t o1 e ho1 => ?_) (fun e he => ?_)
    · obtain ⟨q1, q2, q3, q4, q5⟩ := hgq hg e
      obtain ⟨r1, r2, r3, r4⟩ := q4
      obtain ⟨x, v, hv⟩ : ∃ x v, popS t = (x, v) := ⟨_, _, rfl⟩
      have hv1 : (popS t).1 = x := by rw [hv]
      have hv2 : (popS t).2 = v := by rw [hv]
      obtain ⟨p1, p2, p3, p4⟩ := popS_gr t
      have p5 := popS_left t
      obtain ⟨g1, g2⟩ := q3.pop
      rw [hv2] at p1 p2 p3 p4 p5 g2
      rw [hv1] at g1
      refine go ?_
      rw [e]
      dsimp only
      rw [hv2]
      refine pop_c [] hv ho1 ⟨by omega, by omega, by omega⟩ fun o3 ho3 => ?_
      refine go ?_
      refine own_c (l := s.left) [] (by omega) hR (by omega) (by omega) q1 q2 (fun ai ao w ea => ?_) (fun e3 he3 => ?_)
      · obtain ⟨c1, c2, c3, c4, c5, c6⟩ := ownS_gr hrg ea
        rw [ea]
        dsimp only
        refine go ?_
        refine VAll.mk (fun b15 => go ?_)
        refine need_c (fun hb => ?_) (fun hb => ?_)
        · have hb : ai = ao := by simpa using hb
          rw [if_pos hb]
          refine go ?_
          have e1 : w.stk = v.stk := by rw [c6]
          have e4 : w.inn = v.inn := by rw [c6]
          have ho5 : okL o3 w := fun h => by rw [e1]; exact ho3 h
          have hg5 : GoodS w := fun y hy => g2 y (by rw [← e1]; exact hy)
          refine apply_c (l := w.left) [_] ho5 ⟨by omega, by omega, by rw [e1]; omega⟩ (by omega) (by omega) fun o6 ho6 => ?_
          refine go ?_
          exact VRet.mk _ (VSel.skip (VSel.refl _) _) ⟨rfl, hg5.apply _ _, o6, ho6, by rw [applyS_left]; rfl⟩
        · have hb : ¬ ai = ao := by simpa using hb
          rw [if_neg hb]
          refine go ?_
          exact VRet.mk [] .nil ⟨rfl, rfl⟩
      · rw [he3]
        refine go ?_
        exact VRet.mk [] .nil ⟨rfl, rfl⟩
    · refine go ?_
      refine VRet.mk [] .nil ?_
      rw [he]
      exact ⟨rfl, rfl⟩
  rw [if_neg (by rintro (h | h) <;> simp_all)]
  refine fork (fun h7 => go ?_) (fun h7 => go ?_)
  · have h7 : name = [108, 111, 111, 112] := by simpa using h7
    rw [if_pos h7]
    refine quot_c [] ho hfs (fun q t o1 e ho1 => ?_) (fun e he => ?_)
    · obtain ⟨q1, q2, q3, q4, q5⟩ := hgq hg e
      obtain ⟨r1, r2, r3, r4⟩ := q4
      rw [e]
      dsimp only
      refine go ?_
      refine own_c (l := s.left) [] (by omega) hR (by omega) (by omega) q1 q2 (fun ai ao w ea => ?_) (fun e3 he3 => ?_)
      · obtain ⟨c1, c2, c3, c4, c5, c6⟩ := ownS_gr hrg ea
        rw [ea]
        dsimp only
        refine go ?_
        refine VAll.mk (fun b15 => go ?_)
        refine need_c (fun hb => ?_) (fun hb => ?_)
        · have hb : ao = ai + 1 := by simpa using hb
          rw [if_pos hb]
          refine go ?_
          have e1 : w.stk = t.stk := by rw [c6]
          have e4 : w.inn = t.inn := by rw [c6]
          have ho5 : okL o1 w := fun h => by rw [e1]; exact ho1 h
          have hg5 : GoodS w := fun y hy => q3 y (by rw [← e1]; exact hy)
          refine apply_c (l := w.left) [_] ho5 ⟨by omega, by omega, by rw [e1]; omega⟩ (by omega) (by omega) fun o6 ho6 => ?_
          refine go ?_
          exact VRet.mk _ (VSel.skip (VSel.refl _) _) ⟨rfl, hg5.apply _ _, o6, ho6, by rw [applyS_left]; rfl⟩
        · have hb : ¬ ao = ai + 1 := by simpa using hb
          rw [if_neg hb]
          refine go ?_
          exact VRet.mk [] .nil ⟨rfl, rfl⟩
      · rw [he3]
        refine go ?_
        exact VRet.mk [] .nil ⟨rfl, rfl⟩
    · refine go ?_
      refine VRet.mk [] .nil ?_
      rw [he]
      exact ⟨rfl, rfl⟩
  rw [if_neg (by simpa using h7)]
  refine fork (fun h8 => go ?_) (fun h8 => go ?_)
  · have h8 : name = [101, 97, 99, 104] := by simpa using h8
    rw [if_pos h8]
    refine quot_c [] ho hfs (fun q t o1 e ho1 => ?_) (fun e he => ?_)
    · obtain ⟨q1, q2, q3, q4, q5⟩ := hgq hg e
      obtain ⟨r1, r2, r3, r4⟩ := q4
      obtain ⟨x, v, hv⟩ : ∃ x v, popS t = (x, v) := ⟨_, _, rfl⟩
      have hv1 : (popS t).1 = x := by rw [hv]
      have hv2 : (popS t).2 = v := by rw [hv]
      obtain ⟨p1, p2, p3, p4⟩ := popS_gr t
      have p5 := popS_left t
      obtain ⟨g1, g2⟩ := q3.pop
      rw [hv2] at p1 p2 p3 p4 p5 g2
      rw [hv1] at g1
      refine go ?_
      rw [e]
      dsimp only
      rw [hv2]
      refine pop_c [] hv ho1 ⟨by omega, by omega, by omega⟩ fun o3 ho3 => ?_
      refine go ?_
      refine own_c (l := s.left) [] (by omega) hR (by omega) (by omega) q1 q2 (fun ai ao w ea => ?_) (fun e3 he3 => ?_)
      · obtain ⟨c1, c2, c3, c4, c5, c6⟩ := ownS_gr hrg ea
        rw [ea]
        dsimp only
        refine go ?_
        refine VAll.mk (fun b15 => go ?_)
        refine fork (fun hai => go ?_) (fun hai => go ?_)
        · have hai : 1 ≤ ai := by simpa using hai
          refine need_c (fun hb => ?_) (fun hb => ?_)
          · have hb : ao = ai - 1 := by simpa using hb
            rw [if_pos ⟨hai, hb⟩]
            refine go ?_
            have e1 : w.stk = v.stk := by rw [c6]
            have e4 : w.inn = v.inn := by rw [c6]
            have ho5 : okL o3 w := fun h => by rw [e1]; exact ho3 h
            have hg5 : GoodS w := fun y hy => g2 y (by rw [← e1]; exact hy)
            refine apply_c (l := w.left) [_] ho5 ⟨by omega, by omega, by rw [e1]; omega⟩ (by omega) (by omega) fun o6 ho6 => ?_
            refine go ?_
            exact VRet.mk _ (VSel.skip (VSel.refl _) _) ⟨rfl, hg5.apply _ _, o6, ho6, by rw [applyS_left]; rfl⟩
          · have hb : ¬ ao = ai - 1 := by simpa using hb
            rw [if_neg (fun h => hb h.2)]
            refine go ?_
            exact VRet.mk [] .nil ⟨rfl, rfl⟩
        · have hai : ¬ 1 ≤ ai := by simpa using hai
          refine need_c (fun hb => by cases hb) (fun hb => ?_)
          rw [if_neg (fun h => hai h.1)]
          refine go ?_
          exact VRet.mk [] .nil ⟨rfl, rfl⟩
      · rw [he3]
        refine go ?_
        exact VRet.mk [] .nil ⟨rfl, rfl⟩
    · refine go ?_
      refine VRet.mk [] .nil ?_
      rw [he]
      exact ⟨rfl, rfl⟩
  rw [if_neg (by simpa using h8)]
  exact VRet.mk _ (VSel.refl _) ⟨rfl, rfl⟩
end Go.Proofs.YtliabblchkgclaaGreatDoor

namespace Go.Proofs.YtliabblchkgclaaGreatDoor
open Go Go.Av
theorem pop_use2 {bf bm bw : Nat} {o : LR} {s : EfS} {x y : Nat × AObj} {Post : AOut → St → Prop} (ho : okL o s) (hs : Fine s)
    (k : ∀ o', okL o' (popS s).2 → Post (.ret (.agg (slotC (popS s).1))) (x :: y :: FS bf bm bw o' (popS s).2)) : ACalls Tryz.prog 157 [.ptr bf 0] (x :: y :: FS bf bm bw o s) Post :=
  pop_use (R := [x, y]) ho hs List.perm_append_comm k
theorem slotsC_at {P : List Slot} {i : Nat} {x : Slot} (h : P[i]? = some x) : (List.drop (mulN i 2) (slotsC P)).take 2 = slotC x := by
  rw [mulN_eq]
  induction P generalizing i with
  | nil => simp at h
  | cons y r ih =>
    cases i with
    | zero => simp at h; subst h; rfl
    | succ i =>
      have h : r[i]? = some x := by simpa using h
      rw [show (i + 1) * 2 = i * 2 + 1 + 1 by omega]
      exact ih h
def pushL (P : List Slot) (ks : List Nat) (s : EfS) : EfS := ks.foldl (fun t k => pushS t (P.getD k none)) s
theorem pushL_next {P : List Slot} {ks : List Nat} {j k : Nat} (h : ks[j]? = some k) (s : EfS) : pushL P (ks.take (j + 1)) s = pushS (pushL P (ks.take j) s) (P.getD k none) := by
  rw [take_succ_at h, pushL, List.foldl_append]; rfl
theorem pushL_len (P : List Slot) (ks : List Nat) (s : EfS) : (pushL P ks s).stk.length = s.stk.length + ks.length := by
  unfold pushL
  induction ks generalizing s with
  | nil => rfl
  | cons k ks ih => rw [List.foldl_cons, ih]; simp [pushS]; omega

def MoveC (bf bm bw : Nat) (o : LR) (s : EfS) (name : List UInt8) (k : Nat) (ks : List Nat) : Prop :=
    ACalls Tryz.prog 146 [.ptr bf 0, .str name] (FS bf bm bw o s) fun out st' => out = .ret (.tup []) ∧ ∃ o', okL o' (movesS k ks s) ∧ st' = FS bf bm bw o' (movesS k ks s)
theorem f_move_dup (bf bm bw : Nat) (o : LR) (s : EfS) (ho : okL o s) (hs : 0 ≤ s.inn ∧ s.inn ≤ 1000000 ∧ s.stk.length ≤ 1000000) : MoveC bf bm bw o s [100, 117, 112] 1 [0, 0] := by
  have hP := f_Prim [100, 117, 112]
  have hF0 := Fine.pops hs (show 0 ≤ 65536 by omega)
  have hF1 := Fine.pops hs (show 1 ≤ 65536 by omega)
  have hF2 := Fine.pops hs (show 2 ≤ 65536 by omega)
  have hF3 := Fine.pops hs (show 3 ≤ 65536 by omega)
  rw [show primR [100, 117, 112] = some (1, 2) by decide] at hP
  have hP : Av.Fn Tryz.prog 145 [.str [100, 117, 112]] (.tup [.agg [.int .i64 1, .int .i64 2], .bool true]) := hP
  unfold MoveC
  refine ACalls.of_W tb_ok (fn := Tryz.f146) (n := 60) (by kernel_rfl) rfl (by kernel_rfl) rfl rfl (by simp) (go ?_)
  refine Fn.use (hP) (go ?_)
  refine VAll.mk (fun b => go ?_)
  refine VAll.mk (fun bl => go ?_)
  refine VLoop.un 5 [7] (go ?_)
  refine pop_use2 ho hF0 fun o1 ho1 => ?_
  refine go ?_
  refine VGd.mk ⟨Nat.le_of_ble_eq_true rfl, Nat.le_of_ble_eq_true rfl⟩ (go ?_)
  refine VAll.mk (fun bmv => go ?_)
  repeat (refine VMap.mk _ rfl (go ?_))
  have hst : ((popS s).2).stk.length ≤ 2000000 := hF1.2.2
  have hfin : pushL [(popS s).1] [0, 0] (popS s).2 = movesS 1 [0, 0] s := rfl
  generalize (popS s).2 = T at ho1 hst hfin ⊢
  obtain ⟨Tl, Ti, Tk⟩ := T
  refine VLoop.mk [42] (Nat × LR) (fun i => [.int .i64 i.1]) (fun i => (bl, .arr 2 (slotsC [(popS s).1]) 0) :: FS bf bm bw i.2 (pushL [(popS s).1] (([0, 0] : List Nat).take i.1) ⟨Tl, Ti, Tk⟩)) (fun i => i.1 ≤ ([0, 0] : List Nat).length ∧ okL i.2 (pushL [(popS s).1] (([0, 0] : List Nat).take i.1) ⟨Tl, Ti, Tk⟩)) (fun i => ([0, 0] : List Nat).length - i.1) (0, o1) ?_ ?_
  · exact ⟨⟨Nat.zero_le _, ho1⟩, rfl, .cons 1 rfl (VSel.skip (VSel.skip (VSel.refl _) _) _)⟩
  rintro ⟨j, oj⟩ ⟨hj, hoj⟩
  dsimp only at hj hoj hst ⊢
  refine go ?_
  refine fork (fun hlt => go ?_) (fun hlt => go ?_)
  · have hlt : j < ([0, 0] : List Nat).length := by simp at hlt ⊢; omega
    have hc : j = 0 ∨ j = 1 ∨ j = 2 := by simp at hlt; omega
    have hpl : ∀ i, (pushL [(popS s).1] (([0, 0] : List Nat).take i) ⟨Tl, Ti, Tk⟩).stk.length ≤ 2000003 := fun i => by
      have h1 := List.length_take_le' i ([0, 0] : List Nat)
      have h2 : ([0, 0] : List Nat).length ≤ 3 := by decide
      rw [pushL_len]
      show Tk.length + _ ≤ _
      omega
    rcases hc with rfl | rfl | rfl
    all_goals first
      | (exfalso; simp at hlt; done)
      | skip
    all_goals refine go ?_
    all_goals refine VDraw.chain [10, 13] (go ?_)
    all_goals
      cases oj with
      | none =>
        have h0 := hoj rfl
        first
        | (exfalso; revert h0; simp [pushL, pushS]; done)
        | (obtain rfl : Tk = [] := h0
           refine go ?_
           refine VAll.mk (fun b2 => go ?_)
           exact ⟨(1, some (b2, [])), ⟨by simp, fun h => by cases h⟩, by simp, rfl, .cons 1 rfl (.cons 1 rfl (.cons 0 rfl .nil))⟩)
      | some x =>
        obtain ⟨bo, junk⟩ := x
        refine go ?_
        refine VGd.mk ⟨rfl, Nat.zero_le _, app_len _ _, Nat.le_trans (Nat.mul_le_mul_left _ (Nat.succ_le_succ (hpl _))) (Nat.le_of_ble_eq_true rfl)⟩ (go ?_)
        refine VAll.mk (fun b2 => go ?_)
        exact ⟨(_, some (b2, [])), ⟨by simp, fun h => by cases h⟩, by simp, rfl, .cons 1 rfl (.cons 1 rfl (.cons 0 (congrArg (fun c => some (b2, AObj.arr 2 c 0)) (app_cells _ _ _)) .nil))⟩
  · have hj2 : j = ([0, 0] : List Nat).length := by simp at hlt hj ⊢; omega
    subst hj2
    have hfin : pushL [(popS s).1] (([0, 0] : List Nat).take ([0, 0] : List Nat).length) ⟨Tl, Ti, Tk⟩ = movesS 1 [0, 0] s := hfin
    rw [hfin] at hoj ⊢
    exact VRet.mk _ (VSel.skip (VSel.refl _) _) ⟨rfl, oj, hoj, rfl⟩
theorem f_move_drop (bf bm bw : Nat) (o : LR) (s : EfS) (ho : okL o s) (hs : 0 ≤ s.inn ∧ s.inn ≤ 1000000 ∧ s.stk.length ≤ 1000000) : MoveC bf bm bw o s [100, 114, 111, 112] 1 [] := by
  have hP := f_Prim [100, 114, 111, 112]
  have hF0 := Fine.pops hs (show 0 ≤ 65536 by omega)
  have hF1 := Fine.pops hs (show 1 ≤ 65536 by omega)
  have hF2 := Fine.pops hs (show 2 ≤ 65536 by omega)
  have hF3 := Fine.pops hs (show 3 ≤ 65536 by omega)
  rw [show primR [100, 114, 111, 112] = some (1, 0) by decide] at hP
  have hP : Av.Fn Tryz.prog 145 [.str [100, 114, 111, 112]] (.tup [.agg [.int .i64 1, .int .i64 0], .bool true]) := hP
  unfold MoveC
  refine ACalls.of_W tb_ok (fn := Tryz.f146) (n := 60) (by kernel_rfl) rfl (by kernel_rfl) rfl rfl (by simp) (go ?_)
  refine Fn.use (hP) (go ?_)
  refine VAll.mk (fun b => go ?_)
  refine VAll.mk (fun bl => go ?_)
  refine VLoop.un 5 [7] (go ?_)
  refine pop_use2 ho hF0 fun o1 ho1 => ?_
  refine go ?_
  refine VGd.mk ⟨Nat.le_of_ble_eq_true rfl, Nat.le_of_ble_eq_true rfl⟩ (go ?_)
  refine VAll.mk (fun bmv => go ?_)
  repeat (refine VMap.mk _ rfl (go ?_))
  refine VLoop.un 2 [42] (go ?_)
  exact VRet.mk _ (VSel.skip (VSel.skip (VSel.skip (VSel.refl _) _) _) _) ⟨rfl, o1, ho1, rfl⟩
theorem f_move_swap (bf bm bw : Nat) (o : LR) (s : EfS) (ho : okL o s) (hs : 0 ≤ s.inn ∧ s.inn ≤ 1000000 ∧ s.stk.length ≤ 1000000) : MoveC bf bm bw o s [115, 119, 97, 112] 2 [1, 0] := by
  have hP := f_Prim [115, 119, 97, 112]
  have hF0 := Fine.pops hs (show 0 ≤ 65536 by omega)
  have hF1 := Fine.pops hs (show 1 ≤ 65536 by omega)
  have hF2 := Fine.pops hs (show 2 ≤ 65536 by omega)
  have hF3 := Fine.pops hs (show 3 ≤ 65536 by omega)
  rw [show primR [115, 119, 97, 112] = some (2, 2) by decide] at hP
  have hP : Av.Fn Tryz.prog 145 [.str [115, 119, 97, 112]] (.tup [.agg [.int .i64 2, .int .i64 2], .bool true]) := hP
  unfold MoveC
  refine ACalls.of_W tb_ok (fn := Tryz.f146) (n := 60) (by kernel_rfl) rfl (by kernel_rfl) rfl rfl (by simp) (go ?_)
  refine Fn.use (hP) (go ?_)
  refine VAll.mk (fun b => go ?_)
  refine VAll.mk (fun bl => go ?_)
  refine VLoop.un 5 [7] (go ?_)
  refine pop_use2 ho hF0 fun o1 ho1 => ?_
  refine go ?_
  refine VGd.mk ⟨Nat.le_of_ble_eq_true rfl, Nat.le_of_ble_eq_true rfl⟩ (go ?_)
  refine pop_use2 ho1 hF1 fun o1 ho1 => ?_
  refine go ?_
  refine VGd.mk ⟨Nat.le_of_ble_eq_true rfl, Nat.le_of_ble_eq_true rfl⟩ (go ?_)
  refine VAll.mk (fun bmv => go ?_)
  repeat (refine VMap.mk _ rfl (go ?_))
  have hst : ((popS (popS s).2).2).stk.length ≤ 2000000 := hF2.2.2
  have hfin : pushL [(popS (popS s).2).1, (popS s).1] [1, 0] (popS (popS s).2).2 = movesS 2 [1, 0] s := rfl
  generalize (popS (popS s).2).2 = T at ho1 hst hfin ⊢
  obtain ⟨Tl, Ti, Tk⟩ := T
  refine VLoop.mk [42] (Nat × LR) (fun i => [.int .i64 i.1]) (fun i => (bl, .arr 2 (slotsC [(popS (popS s).2).1, (popS s).1]) 0) :: FS bf bm bw i.2 (pushL [(popS (popS s).2).1, (popS s).1] (([1, 0] : List Nat).take i.1) ⟨Tl, Ti, Tk⟩)) (fun i => i.1 ≤ ([1, 0] : List Nat).length ∧ okL i.2 (pushL [(popS (popS s).2).1, (popS s).1] (([1, 0] : List Nat).take i.1) ⟨Tl, Ti, Tk⟩)) (fun i => ([1, 0] : List Nat).length - i.1) (0, o1) ?_ ?_
  · exact ⟨⟨Nat.zero_le _, ho1⟩, rfl, .cons 1 rfl (VSel.skip (VSel.skip (VSel.refl _) _) _)⟩
  rintro ⟨j, oj⟩ ⟨hj, hoj⟩
  dsimp only at hj hoj hst ⊢
  refine go ?_
  refine fork (fun hlt => go ?_) (fun hlt => go ?_)
  · have hlt : j < ([1, 0] : List Nat).length := by simp at hlt ⊢; omega
    have hc : j = 0 ∨ j = 1 ∨ j = 2 := by simp at hlt; omega
    have hpl : ∀ i, (pushL [(popS (popS s).2).1, (popS s).1] (([1, 0] : List Nat).take i) ⟨Tl, Ti, Tk⟩).stk.length ≤ 2000003 := fun i => by
      have h1 := List.length_take_le' i ([1, 0] : List Nat)
      have h2 : ([1, 0] : List Nat).length ≤ 3 := by decide
      rw [pushL_len]
      show Tk.length + _ ≤ _
      omega
    rcases hc with rfl | rfl | rfl
    all_goals first
      | (exfalso; simp at hlt; done)
      | skip
    all_goals refine go ?_
    all_goals refine VDraw.chain [10, 13] (go ?_)
    all_goals
      cases oj with
      | none =>
        have h0 := hoj rfl
        first
        | (exfalso; revert h0; simp [pushL, pushS]; done)
        | (obtain rfl : Tk = [] := h0
           refine go ?_
           refine VAll.mk (fun b2 => go ?_)
           exact ⟨(1, some (b2, [])), ⟨by simp, fun h => by cases h⟩, by simp, rfl, .cons 1 rfl (.cons 1 rfl (.cons 0 rfl .nil))⟩)
      | some x =>
        obtain ⟨bo, junk⟩ := x
        refine go ?_
        refine VGd.mk ⟨rfl, Nat.zero_le _, app_len _ _, Nat.le_trans (Nat.mul_le_mul_left _ (Nat.succ_le_succ (hpl _))) (Nat.le_of_ble_eq_true rfl)⟩ (go ?_)
        refine VAll.mk (fun b2 => go ?_)
        exact ⟨(_, some (b2, [])), ⟨by simp, fun h => by cases h⟩, by simp, rfl, .cons 1 rfl (.cons 1 rfl (.cons 0 (congrArg (fun c => some (b2, AObj.arr 2 c 0)) (app_cells _ _ _)) .nil))⟩
  · have hj2 : j = ([1, 0] : List Nat).length := by simp at hlt hj ⊢; omega
    subst hj2
    have hfin : pushL [(popS (popS s).2).1, (popS s).1] (([1, 0] : List Nat).take ([1, 0] : List Nat).length) ⟨Tl, Ti, Tk⟩ = movesS 2 [1, 0] s := hfin
    rw [hfin] at hoj ⊢
    exact VRet.mk _ (VSel.skip (VSel.refl _) _) ⟨rfl, oj, hoj, rfl⟩
theorem f_move_over (bf bm bw : Nat) (o : LR) (s : EfS) (ho : okL o s) (hs : 0 ≤ s.inn ∧ s.inn ≤ 1000000 ∧ s.stk.length ≤ 1000000) : MoveC bf bm bw o s [111, 118, 101, 114] 2 [0, 1, 0] := by
  have hP := f_Prim [111, 118, 101, 114]
  have hF0 := Fine.pops hs (show 0 ≤ 65536 by omega)
  have hF1 := Fine.pops hs (show 1 ≤ 65536 by omega)
  have hF2 := Fine.pops hs (show 2 ≤ 65536 by omega)
  have hF3 := Fine.pops hs (show 3 ≤ 65536 by omega)
  rw [show primR [111, 118, 101, 114] = some (2, 3) by decide] at hP
  have hP : Av.Fn Tryz.prog 145 [.str [111, 118, 101, 114]] (.tup [.agg [.int .i64 2, .int .i64 3], .bool true]) := hP
  unfold MoveC
  refine ACalls.of_W tb_ok (fn := Tryz.f146) (n := 60) (by kernel_rfl) rfl (by kernel_rfl) rfl rfl (by simp) (go ?_)
  refine Fn.use (hP) (go ?_)
  refine VAll.mk (fun b => go ?_)
  refine VAll.mk (fun bl => go ?_)
  refine VLoop.un 5 [7] (go ?_)
  refine pop_use2 ho hF0 fun o1 ho1 => ?_
  refine go ?_
  refine VGd.mk ⟨Nat.le_of_ble_eq_true rfl, Nat.le_of_ble_eq_true rfl⟩ (go ?_)
  refine pop_use2 ho1 hF1 fun o1 ho1 => ?_
  refine go ?_
  refine VGd.mk ⟨Nat.le_of_ble_eq_true rfl, Nat.le_of_ble_eq_true rfl⟩ (go ?_)
  refine VAll.mk (fun bmv => go ?_)
  repeat (refine VMap.mk _ rfl (go ?_))
  have hst : ((popS (popS s).2).2).stk.length ≤ 2000000 := hF2.2.2
  have hfin : pushL [(popS (popS s).2).1, (popS s).1] [0, 1, 0] (popS (popS s).2).2 = movesS 2 [0, 1, 0] s := rfl
  generalize (popS (popS s).2).2 = T at ho1 hst hfin ⊢
  obtain ⟨Tl, Ti, Tk⟩ := T
  refine VLoop.mk [42] (Nat × LR) (fun i => [.int .i64 i.1]) (fun i => (bl, .arr 2 (slotsC [(popS (popS s).2).1, (popS s).1]) 0) :: FS bf bm bw i.2 (pushL [(popS (popS s).2).1, (popS s).1] (([0, 1, 0] : List Nat).take i.1) ⟨Tl, Ti, Tk⟩)) (fun i => i.1 ≤ ([0, 1, 0] : List Nat).length ∧ okL i.2 (pushL [(popS (popS s).2).1, (popS s).1] (([0, 1, 0] : List Nat).take i.1) ⟨Tl, Ti, Tk⟩)) (fun i => ([0, 1, 0] : List Nat).length - i.1) (0, o1) ?_ ?_
  · exact ⟨⟨Nat.zero_le _, ho1⟩, rfl, .cons 1 rfl (VSel.skip (VSel.skip (VSel.refl _) _) _)⟩
  rintro ⟨j, oj⟩ ⟨hj, hoj⟩
  dsimp only at hj hoj hst ⊢
  refine go ?_
  refine fork (fun hlt => go ?_) (fun hlt => go ?_)
  · have hlt : j < ([0, 1, 0] : List Nat).length := by simp at hlt ⊢; omega
    have hc : j = 0 ∨ j = 1 ∨ j = 2 := by simp at hlt; omega
    have hpl : ∀ i, (pushL [(popS (popS s).2).1, (popS s).1] (([0, 1, 0] : List Nat).take i) ⟨Tl, Ti, Tk⟩).stk.length ≤ 2000003 := fun i => by
      have h1 := List.length_take_le' i ([0, 1, 0] : List Nat)
      have h2 : ([0, 1, 0] : List Nat).length ≤ 3 := by decide
      rw [pushL_len]
      show Tk.length + _ ≤ _
      omega
    rcases hc with rfl | rfl | rfl
    all_goals first
      | (exfalso; simp at hlt; done)
      | skip
    all_goals refine go ?_
    all_goals refine VDraw.chain [10, 13] (go ?_)
    all_goals
      cases oj with
      | none =>
        have h0 := hoj rfl
        first
        | (exfalso; revert h0; simp [pushL, pushS]; done)
        | (obtain rfl : Tk = [] := h0
           refine go ?_
           refine VAll.mk (fun b2 => go ?_)
           exact ⟨(1, some (b2, [])), ⟨by simp, fun h => by cases h⟩, by simp, rfl, .cons 1 rfl (.cons 1 rfl (.cons 0 rfl .nil))⟩)
      | some x =>
        obtain ⟨bo, junk⟩ := x
        refine go ?_
        refine VGd.mk ⟨rfl, Nat.zero_le _, app_len _ _, Nat.le_trans (Nat.mul_le_mul_left _ (Nat.succ_le_succ (hpl _))) (Nat.le_of_ble_eq_true rfl)⟩ (go ?_)
        refine VAll.mk (fun b2 => go ?_)
        exact ⟨(_, some (b2, [])), ⟨by simp, fun h => by cases h⟩, by simp, rfl, .cons 1 rfl (.cons 1 rfl (.cons 0 (congrArg (fun c => some (b2, AObj.arr 2 c 0)) (app_cells _ _ _)) .nil))⟩
  · have hj2 : j = ([0, 1, 0] : List Nat).length := by simp at hlt hj ⊢; omega
    subst hj2
    have hfin : pushL [(popS (popS s).2).1, (popS s).1] (([0, 1, 0] : List Nat).take ([0, 1, 0] : List Nat).length) ⟨Tl, Ti, Tk⟩ = movesS 2 [0, 1, 0] s := hfin
    rw [hfin] at hoj ⊢
    exact VRet.mk _ (VSel.skip (VSel.refl _) _) ⟨rfl, oj, hoj, rfl⟩
theorem f_move_rot (bf bm bw : Nat) (o : LR) (s : EfS) (ho : okL o s) (hs : 0 ≤ s.inn ∧ s.inn ≤ 1000000 ∧ s.stk.length ≤ 1000000) : MoveC bf bm bw o s [114, 111, 116] 3 [1, 2, 0] := by
  have hP := f_Prim [114, 111, 116]
  have hF0 := Fine.pops hs (show 0 ≤ 65536 by omega)
  have hF1 := Fine.pops hs (show 1 ≤ 65536 by omega)
  have hF2 := Fine.pops hs (show 2 ≤ 65536 by omega)
  have hF3 := Fine.pops hs (show 3 ≤ 65536 by omega)
  rw [show primR [114, 111, 116] = some (3, 3) by decide] at hP
  have hP : Av.Fn Tryz.prog 145 [.str [114, 111, 116]] (.tup [.agg [.int .i64 3, .int .i64 3], .bool true]) := hP
  unfold MoveC
  refine ACalls.of_W tb_ok (fn := Tryz.f146) (n := 60) (by kernel_rfl) rfl (by kernel_rfl) rfl rfl (by simp) (go ?_)
  refine Fn.use (hP) (go ?_)
  refine VAll.mk (fun b => go ?_)
  refine VAll.mk (fun bl => go ?_)
  refine VLoop.un 5 [7] (go ?_)
  refine pop_use2 ho hF0 fun o1 ho1 => ?_
  refine go ?_
  refine VGd.mk ⟨Nat.le_of_ble_eq_true rfl, Nat.le_of_ble_eq_true rfl⟩ (go ?_)
  refine pop_use2 ho1 hF1 fun o1 ho1 => ?_
  refine go ?_
  refine VGd.mk ⟨Nat.le_of_ble_eq_true rfl, Nat.le_of_ble_eq_true rfl⟩ (go ?_)
  refine pop_use2 ho1 hF2 fun o1 ho1 => ?_
  refine go ?_
  refine VGd.mk ⟨Nat.le_of_ble_eq_true rfl, Nat.le_of_ble_eq_true rfl⟩ (go ?_)
  refine VAll.mk (fun bmv => go ?_)
  repeat (refine VMap.mk _ rfl (go ?_))
  have hst : ((popS (popS (popS s).2).2).2).stk.length ≤ 2000000 := hF3.2.2
  have hfin : pushL [(popS (popS (popS s).2).2).1, (popS (popS s).2).1, (popS s).1] [1, 2, 0] (popS (popS (popS s).2).2).2 = movesS 3 [1, 2, 0] s := rfl
  generalize (popS (popS (popS s).2).2).2 = T at ho1 hst hfin ⊢
  obtain ⟨Tl, Ti, Tk⟩ := T
  refine VLoop.mk [42] (Nat × LR) (fun i => [.int .i64 i.1]) (fun i => (bl, .arr 2 (slotsC [(popS (popS (popS s).2).2).1, (popS (popS s).2).1, (popS s).1]) 0) :: FS bf bm bw i.2 (pushL [(popS (popS (popS s).2).2).1, (popS (popS s).2).1, (popS s).1] (([1, 2, 0] : List Nat).take i.1) ⟨Tl, Ti, Tk⟩)) (fun i => i.1 ≤ ([1, 2, 0] : List Nat).length ∧ okL i.2 (pushL [(popS (popS (popS s).2).2).1, (popS (popS s).2).1, (popS s).1] (([1, 2, 0] : List Nat).take i.1) ⟨Tl, Ti, Tk⟩)) (fun i => ([1, 2, 0] : List Nat).length - i.1) (0, o1) ?_ ?_
  · exact ⟨⟨Nat.zero_le _, ho1⟩, rfl, .cons 1 rfl (VSel.skip (VSel.skip (VSel.refl _) _) _)⟩
  rintro ⟨j, oj⟩ ⟨hj, hoj⟩
  dsimp only at hj hoj hst ⊢
  refine go ?_
  refine fork (fun hlt => go ?_) (fun hlt => go ?_)
  · have hlt : j < ([1, 2, 0] : List Nat).length := by simp at hlt ⊢; omega
    have hc : j = 0 ∨ j = 1 ∨ j = 2 := by simp at hlt; omega
    have hpl : ∀ i, (pushL [(popS (popS (popS s).2).2).1, (popS (popS s).2).1, (popS s).1] (([1, 2, 0] : List Nat).take i) ⟨Tl, Ti, Tk⟩).stk.length ≤ 2000003 := fun i => by
      have h1 := List.length_take_le' i ([1, 2, 0] : List Nat)
      have h2 : ([1, 2, 0] : List Nat).length ≤ 3 := by decide
      rw [pushL_len]
      show Tk.length + _ ≤ _
      omega
    rcases hc with rfl | rfl | rfl
    all_goals first
      | (exfalso; simp at hlt; done)
      | skip
    all_goals refine go ?_
    all_goals refine VDraw.chain [10, 13] (go ?_)
    all_goals
      cases oj with
      | none =>
        have h0 := hoj rfl
        first
        | (exfalso; revert h0; simp [pushL, pushS]; done)
        | (obtain rfl : Tk = [] := h0
           refine go ?_
           refine VAll.mk (fun b2 => go ?_)
           exact ⟨(1, some (b2, [])), ⟨by simp, fun h => by cases h⟩, by simp, rfl, .cons 1 rfl (.cons 1 rfl (.cons 0 rfl .nil))⟩)
      | some x =>
        obtain ⟨bo, junk⟩ := x
        refine go ?_
        refine VGd.mk ⟨rfl, Nat.zero_le _, app_len _ _, Nat.le_trans (Nat.mul_le_mul_left _ (Nat.succ_le_succ (hpl _))) (Nat.le_of_ble_eq_true rfl)⟩ (go ?_)
        refine VAll.mk (fun b2 => go ?_)
        exact ⟨(_, some (b2, [])), ⟨by simp, fun h => by cases h⟩, by simp, rfl, .cons 1 rfl (.cons 1 rfl (.cons 0 (congrArg (fun c => some (b2, AObj.arr 2 c 0)) (app_cells _ _ _)) .nil))⟩
  · have hj2 : j = ([1, 2, 0] : List Nat).length := by simp at hlt hj ⊢; omega
    subst hj2
    have hfin : pushL [(popS (popS (popS s).2).2).1, (popS (popS s).2).1, (popS s).1] (([1, 2, 0] : List Nat).take ([1, 2, 0] : List Nat).length) ⟨Tl, Ti, Tk⟩ = movesS 3 [1, 2, 0] s := hfin
    rw [hfin] at hoj ⊢
    exact VRet.mk _ (VSel.skip (VSel.refl _) _) ⟨rfl, oj, hoj, rfl⟩
theorem f_move_nip (bf bm bw : Nat) (o : LR) (s : EfS) (ho : okL o s) (hs : 0 ≤ s.inn ∧ s.inn ≤ 1000000 ∧ s.stk.length ≤ 1000000) : MoveC bf bm bw o s [110, 105, 112] 2 [1] := by
  have hP := f_Prim [110, 105, 112]
  have hF0 := Fine.pops hs (show 0 ≤ 65536 by omega)
  have hF1 := Fine.pops hs (show 1 ≤ 65536 by omega)
  have hF2 := Fine.pops hs (show 2 ≤ 65536 by omega)
  have hF3 := Fine.pops hs (show 3 ≤ 65536 by omega)
  rw [show primR [110, 105, 112] = some (2, 1) by decide] at hP
  have hP : Av.Fn Tryz.prog 145 [.str [110, 105, 112]] (.tup [.agg [.int .i64 2, .int .i64 1], .bool true]) := hP
  unfold MoveC
  refine ACalls.of_W tb_ok (fn := Tryz.f146) (n := 60) (by kernel_rfl) rfl (by kernel_rfl) rfl rfl (by simp) (go ?_)
  refine Fn.use (hP) (go ?_)
  refine VAll.mk (fun b => go ?_)
  refine VAll.mk (fun bl => go ?_)
  refine VLoop.un 5 [7] (go ?_)
  refine pop_use2 ho hF0 fun o1 ho1 => ?_
  refine go ?_
  refine VGd.mk ⟨Nat.le_of_ble_eq_true rfl, Nat.le_of_ble_eq_true rfl⟩ (go ?_)
  refine pop_use2 ho1 hF1 fun o1 ho1 => ?_
  refine go ?_
  refine VGd.mk ⟨Nat.le_of_ble_eq_true rfl, Nat.le_of_ble_eq_true rfl⟩ (go ?_)
  refine VAll.mk (fun bmv => go ?_)
  repeat (refine VMap.mk _ rfl (go ?_))
  have hst : ((popS (popS s).2).2).stk.length ≤ 2000000 := hF2.2.2
  have hfin : pushL [(popS (popS s).2).1, (popS s).1] [1] (popS (popS s).2).2 = movesS 2 [1] s := rfl
  generalize (popS (popS s).2).2 = T at ho1 hst hfin ⊢
  obtain ⟨Tl, Ti, Tk⟩ := T
  refine VLoop.mk [42] (Nat × LR) (fun i => [.int .i64 i.1]) (fun i => (bl, .arr 2 (slotsC [(popS (popS s).2).1, (popS s).1]) 0) :: FS bf bm bw i.2 (pushL [(popS (popS s).2).1, (popS s).1] (([1] : List Nat).take i.1) ⟨Tl, Ti, Tk⟩)) (fun i => i.1 ≤ ([1] : List Nat).length ∧ okL i.2 (pushL [(popS (popS s).2).1, (popS s).1] (([1] : List Nat).take i.1) ⟨Tl, Ti, Tk⟩)) (fun i => ([1] : List Nat).length - i.1) (0, o1) ?_ ?_
  · exact ⟨⟨Nat.zero_le _, ho1⟩, rfl, .cons 1 rfl (VSel.skip (VSel.skip (VSel.refl _) _) _)⟩
  rintro ⟨j, oj⟩ ⟨hj, hoj⟩
  dsimp only at hj hoj hst ⊢
  refine go ?_
  refine fork (fun hlt => go ?_) (fun hlt => go ?_)
  · have hlt : j < ([1] : List Nat).length := by simp at hlt ⊢; omega
    have hc : j = 0 ∨ j = 1 ∨ j = 2 := by simp at hlt; omega
    have hpl : ∀ i, (pushL [(popS (popS s).2).1, (popS s).1] (([1] : List Nat).take i) ⟨Tl, Ti, Tk⟩).stk.length ≤ 2000003 := fun i => by
      have h1 := List.length_take_le' i ([1] : List Nat)
      have h2 : ([1] : List Nat).length ≤ 3 := by decide
      rw [pushL_len]
      show Tk.length + _ ≤ _
      omega
    rcases hc with rfl | rfl | rfl
    all_goals first
      | (exfalso; simp at hlt; done)
      | skip
    all_goals refine go ?_
    all_goals refine VDraw.chain [10, 13] (go ?_)
    all_goals
      cases oj with
      | none =>
        have h0 := hoj rfl
        first
        | (exfalso; revert h0; simp [pushL, pushS]; done)
        | (obtain rfl : Tk = [] := h0
           refine go ?_
           refine VAll.mk (fun b2 => go ?_)
           exact ⟨(1, some (b2, [])), ⟨by simp, fun h => by cases h⟩, by simp, rfl, .cons 1 rfl (.cons 1 rfl (.cons 0 rfl .nil))⟩)
      | some x =>
        obtain ⟨bo, junk⟩ := x
        refine go ?_
        refine VGd.mk ⟨rfl, Nat.zero_le _, app_len _ _, Nat.le_trans (Nat.mul_le_mul_left _ (Nat.succ_le_succ (hpl _))) (Nat.le_of_ble_eq_true rfl)⟩ (go ?_)
        refine VAll.mk (fun b2 => go ?_)
        exact ⟨(_, some (b2, [])), ⟨by simp, fun h => by cases h⟩, by simp, rfl, .cons 1 rfl (.cons 1 rfl (.cons 0 (congrArg (fun c => some (b2, AObj.arr 2 c 0)) (app_cells _ _ _)) .nil))⟩
  · have hj2 : j = ([1] : List Nat).length := by simp at hlt hj ⊢; omega
    subst hj2
    have hfin : pushL [(popS (popS s).2).1, (popS s).1] (([1] : List Nat).take ([1] : List Nat).length) ⟨Tl, Ti, Tk⟩ = movesS 2 [1] s := hfin
    rw [hfin] at hoj ⊢
    exact VRet.mk _ (VSel.skip (VSel.refl _) _) ⟨rfl, oj, hoj, rfl⟩
theorem f_move_tuck (bf bm bw : Nat) (o : LR) (s : EfS) (ho : okL o s) (hs : 0 ≤ s.inn ∧ s.inn ≤ 1000000 ∧ s.stk.length ≤ 1000000) : MoveC bf bm bw o s [116, 117, 99, 107] 2 [1, 0, 1] := by
  have hP := f_Prim [116, 117, 99, 107]
  have hF0 := Fine.pops hs (show 0 ≤ 65536 by omega)
  have hF1 := Fine.pops hs (show 1 ≤ 65536 by omega)
  have hF2 := Fine.pops hs (show 2 ≤ 65536 by omega)
  have hF3 := Fine.pops hs (show 3 ≤ 65536 by omega)
  rw [show primR [116, 117, 99, 107] = some (2, 3) by decide] at hP
  have hP : Av.Fn Tryz.prog 145 [.str [116, 117, 99, 107]] (.tup [.agg [.int .i64 2, .int .i64 3], .bool true]) := hP
  unfold MoveC
  refine ACalls.of_W tb_ok (fn := Tryz.f146) (n := 60) (by kernel_rfl) rfl (by kernel_rfl) rfl rfl (by simp) (go ?_)
  refine Fn.use (hP) (go ?_)
  refine VAll.mk (fun b => go ?_)
  refine VAll.mk (fun bl => go ?_)
  refine VLoop.un 5 [7] (go ?_)
  refine pop_use2 ho hF0 fun o1 ho1 => ?_
  refine go ?_
  refine VGd.mk ⟨Nat.le_of_ble_eq_true rfl, Nat.le_of_ble_eq_true rfl⟩ (go ?_)
  refine pop_use2 ho1 hF1 fun o1 ho1 => ?_
  refine go ?_
  refine VGd.mk ⟨Nat.le_of_ble_eq_true rfl, Nat.le_of_ble_eq_true rfl⟩ (go ?_)
  refine VAll.mk (fun bmv => go ?_)
  repeat (refine VMap.mk _ rfl (go ?_))
  have hst : ((popS (popS s).2).2).stk.length ≤ 2000000 := hF2.2.2
  have hfin : pushL [(popS (popS s).2).1, (popS s).1] [1, 0, 1] (popS (popS s).2).2 = movesS 2 [1, 0, 1] s := rfl
  generalize (popS (popS s).2).2 = T at ho1 hst hfin ⊢
  obtain ⟨Tl, Ti, Tk⟩ := T
  refine VLoop.mk [42] (Nat × LR) (fun i => [.int .i64 i.1]) (fun i => (bl, .arr 2 (slotsC [(popS (popS s).2).1, (popS s).1]) 0) :: FS bf bm bw i.2 (pushL [(popS (popS s).2).1, (popS s).1] (([1, 0, 1] : List Nat).take i.1) ⟨Tl, Ti, Tk⟩)) (fun i => i.1 ≤ ([1, 0, 1] : List Nat).length ∧ okL i.2 (pushL [(popS (popS s).2).1, (popS s).1] (([1, 0, 1] : List Nat).take i.1) ⟨Tl, Ti, Tk⟩)) (fun i => ([1, 0, 1] : List Nat).length - i.1) (0, o1) ?_ ?_
  · exact ⟨⟨Nat.zero_le _, ho1⟩, rfl, .cons 1 rfl (VSel.skip (VSel.skip (VSel.refl _) _) _)⟩
  rintro ⟨j, oj⟩ ⟨hj, hoj⟩
  dsimp only at hj hoj hst ⊢
  refine go ?_
  refine fork (fun hlt => go ?_) (fun hlt => go ?_)
  · have hlt : j < ([1, 0, 1] : List Nat).length := by simp at hlt ⊢; omega
    have hc : j = 0 ∨ j = 1 ∨ j = 2 := by simp at hlt; omega
    have hpl : ∀ i, (pushL [(popS (popS s).2).1, (popS s).1] (([1, 0, 1] : List Nat).take i) ⟨Tl, Ti, Tk⟩).stk.length ≤ 2000003 := fun i => by
      have h1 := List.length_take_le' i ([1, 0, 1] : List Nat)
      have h2 : ([1, 0, 1] : List Nat).length ≤ 3 := by decide
      rw [pushL_len]
      show Tk.length + _ ≤ _
      omega
    rcases hc with rfl | rfl | rfl
    all_goals first
      | (exfalso; simp at hlt; done)
      | skip
    all_goals refine go ?_
    all_goals refine VDraw.chain [10, 13] (go ?_)
    all_goals
      cases oj with
      | none =>
        have h0 := hoj rfl
        first
        | (exfalso; revert h0; simp [pushL, pushS]; done)
        | (obtain rfl : Tk = [] := h0
           refine go ?_
           refine VAll.mk (fun b2 => go ?_)
           exact ⟨(1, some (b2, [])), ⟨by simp, fun h => by cases h⟩, by simp, rfl, .cons 1 rfl (.cons 1 rfl (.cons 0 rfl .nil))⟩)
      | some x =>
        obtain ⟨bo, junk⟩ := x
        refine go ?_
        refine VGd.mk ⟨rfl, Nat.zero_le _, app_len _ _, Nat.le_trans (Nat.mul_le_mul_left _ (Nat.succ_le_succ (hpl _))) (Nat.le_of_ble_eq_true rfl)⟩ (go ?_)
        refine VAll.mk (fun b2 => go ?_)
        exact ⟨(_, some (b2, [])), ⟨by simp, fun h => by cases h⟩, by simp, rfl, .cons 1 rfl (.cons 1 rfl (.cons 0 (congrArg (fun c => some (b2, AObj.arr 2 c 0)) (app_cells _ _ _)) .nil))⟩
  · have hj2 : j = ([1, 0, 1] : List Nat).length := by simp at hlt hj ⊢; omega
    subst hj2
    have hfin : pushL [(popS (popS s).2).1, (popS s).1] (([1, 0, 1] : List Nat).take ([1, 0, 1] : List Nat).length) ⟨Tl, Ti, Tk⟩ = movesS 2 [1, 0, 1] s := hfin
    rw [hfin] at hoj ⊢
    exact VRet.mk _ (VSel.skip (VSel.refl _) _) ⟨rfl, oj, hoj, rfl⟩
theorem f_move (bf bm bw : Nat) (o : LR) (s : EfS) (name : List UInt8) (k : Nat) (ks : List Nat) (hm : moveR name = some (k, ks)) (ho : okL o s) (hs : 0 ≤ s.inn ∧ s.inn ≤ 1000000 ∧ s.stk.length ≤ 1000000) : MoveC bf bm bw o s name k ks := by
  unfold moveR at hm
  split at hm
  · rename_i e
    cases hm; subst e
    exact f_move_dup bf bm bw o s ho hs
  split at hm
  · rename_i e
    cases hm; subst e
    exact f_move_drop bf bm bw o s ho hs
  split at hm
  · rename_i e
    cases hm; subst e
    exact f_move_swap bf bm bw o s ho hs
  split at hm
  · rename_i e
    cases hm; subst e
    exact f_move_over bf bm bw o s ho hs
  split at hm
  · rename_i e
    cases hm; subst e
    exact f_move_rot bf bm bw o s ho hs
  split at hm
  · rename_i e
    cases hm; subst e
    exact f_move_nip bf bm bw o s ho hs
  split at hm
  · rename_i e
    cases hm; subst e
    exact f_move_tuck bf bm bw o s ho hs
  · cases hm
end Go.Proofs.YtliabblchkgclaaGreatDoor

namespace Go.Proofs.YtliabblchkgclaaGreatDoor
open Go Go.Av
/-- Known words. -/
abbrev KnL := List (List UInt8 × Int × Int)
def entsOf (kn : KnL) : List (AV × AV) := kn.map fun x => (.str x.1, .agg [.int .i64 x.2.1, .int .i64 x.2.2])
def knownR (kn : KnL) (name : List UInt8) : Option (Int × Int) := (kn.find? fun x => decide (x.1 = name)).map (·.2)
theorem mapFind_ents (name : List UInt8) : ∀ (kn : KnL) (i : Nat), ∃ r, mapFind (entsOf kn) (.str name) i = some r ∧ r.map (·.2) = (knownR kn name).map fun x => AV.agg [.int .i64 x.1, .int .i64 x.2]
  | [], i => ⟨none, rfl, rfl⟩
  | x :: kn, i => by
    obtain ⟨r, h1, h2⟩ := mapFind_ents name kn (i + 1)
    by_cases e : x.1 = name
    · refine ⟨some (i, .agg [.int .i64 x.2.1, .int .i64 x.2.2]), ?_, ?_⟩
      · show (match some (decide (name = x.1)) with
          | some true => some (some (i, AV.agg [.int .i64 x.2.1, .int .i64 x.2.2]))
          | some false => mapFind (entsOf kn) (.str name) (i + 1)
          | none => none) = _
        rw [decide_eq_true e.symm]
      · unfold knownR
        rw [List.find?_cons_of_pos (by simpa using e)]; rfl
    · refine ⟨r, ?_, ?_⟩
      · show (match some (decide (name = x.1)) with
          | some true => some (some (i, AV.agg [.int .i64 x.2.1, .int .i64 x.2.2]))
          | some false => mapFind (entsOf kn) (.str name) (i + 1)
          | none => none) = _
        rw [decide_eq_false (fun h => e h.symm)]
        exact h1
      · rw [h2]
        unfold knownR
        rw [List.find?_cons_of_neg (by simpa using e)]
structure RunI where
  k : Nat
  o : LR
  t : EfS
theorem move_c {bf bw bm l : Nat} {ents : List (AV × AV)} {o : LR} {s : EfS} {Post : AOut → St → Prop} (E : St) {name : List UInt8} {k : Nat} {ks : List Nat} (hm : moveR name = some (k, ks)) (ho : okL o s) (hs : 0 ≤ s.inn ∧ s.inn ≤ 1000000 ∧ s.stk.length ≤ 1000000)
    (h : ∀ o', okL o' (movesS k ks s) → Post (.ret (.tup [])) (E ++ (WM bw bm ents l ++ FS bf bm bw o' (movesS k ks s)))) :
    ACalls Tryz.prog 146 [.ptr bf 0, .str name] (E ++ (WM bw bm ents l ++ FS bf bm bw o s)) Post := by
  refine ACalls.usep (f_move bf bm bw o s name k ks hm ho hs) (R := E ++ WM bw bm ents l) (permE _ _ _) ?_
  rintro out s' ⟨rfl, o', h1, rfl⟩
  rw [List.append_assoc]; exact h o' h1
theorem control_c {known : List UInt8 → Option (Int × Int)} {bf bw bm n l : Nat} {ents : List (AV × AV)} {o : LR} {s : EfS} {Post : AOut → St → Prop} (E : St) {name : List UInt8} (hl : s.left = l) (hk : ∀ n i o, known n = some (i, o) → 0 ≤ i ∧ i ≤ 16 ∧ 0 ≤ o ∧ o ≤ 16)
    (hR : RunC known bw bm ents n) (hn : s.left ≤ n) (ho : okL o s) (hb : 0 ≤ s.inn ∧ s.inn + 16 * s.left + 16 ≤ 100000 ∧ s.stk.length + 16 * s.left + 16 ≤ 100000 ∧ s.left ≤ 4096) (hg : GoodS s)
    (k0 : controlS (runL known) name s = none → Post (.ret (.bool false)) (E ++ (WM bw bm ents l ++ FS bf bm bw o s)))
    (k1 : ∀ t o', controlS (runL known) name s = some (.ok t) → okL o' t → GoodS t → Post (.ret (.bool true)) (E ++ (WM bw bm ents t.left ++ FS bf bm bw o' t)))
    (k2 : ∀ e, controlS (runL known) name s = some (.error e) → Post (.panic (stopV e)) E) :
    ACalls Tryz.prog 147 [.ptr bf 0, .str name] (E ++ (WM bw bm ents l ++ FS bf bm bw o s)) Post := by
  subst hl
  refine ACalls.usep (f_control hk hR bf o s name hn ho hb hg) (R := E) List.perm_append_comm ?_
  intro out s' h
  unfold CtlP at h
  split at h
  · rename_i e
    obtain ⟨rfl, rfl⟩ := h
    exact k0 e
  · rename_i r e
    unfold RunP at h
    split at h
    · rename_i t
      obtain ⟨rfl, h1, o', h2, rfl⟩ := h
      exact k1 t o' e h2 h1
    · rename_i er
      obtain ⟨rfl, rfl⟩ := h
      rw [List.append_nil]; exact k2 er e
/-- Among the names: has one been moved? -/
structure MvI where
  j : Nat
  o : LR
  mv : Option (Nat × List Nat)
def MvI.nm (i : MvI) (name : List UInt8) : List UInt8 := match i.mv with
  | none => name
  | some _ => []
def MvI.ok (i : MvI) (name : List UInt8) : Bool := match i.mv with
  | none => (primR name).isSome
  | some _ => false
def MvI.st (i : MvI) (s : EfS) : EfS := match i.mv with
  | none => s
  | some x => movesS x.1 x.2 s
def MvI.at (i : MvI) (name : List UInt8) : Prop := match i.mv with
  | none => ∀ a, a < i.j → a < 7 → namesL[a]? ≠ some name
  | some x => moveR name = some x
theorem moved_of {j : Nat} {name : List UInt8} (hj : j < 7) (h : namesL[j]? = some name) : ∃ x, moveR name = some x := by
  have hc : j = 0 ∨ j = 1 ∨ j = 2 ∨ j = 3 ∨ j = 4 ∨ j = 5 ∨ j = 6 := by omega
  rcases hc with rfl | rfl | rfl | rfl | rfl | rfl | rfl <;> (obtain rfl := (Option.some.inj h); exact ⟨_, rfl⟩)
theorem moved_no {name : List UInt8} (h : ∀ a, a < 7 → namesL[a]? ≠ some name) : moveR name = none := by
  unfold moveR
  have h0 := h 0 (by omega); have h1 := h 1 (by omega); have h2 := h 2 (by omega); have h3 := h 3 (by omega); have h4 := h 4 (by omega); have h5 := h 5 (by omega); have h6 := h 6 (by omega)
  rw [if_neg (fun e => h0 (by rw [e]; rfl)), if_neg (fun e => h1 (by rw [e]; rfl)), if_neg (fun e => h2 (by rw [e]; rfl)), if_neg (fun e => h3 (by rw [e]; rfl)), if_neg (fun e => h4 (by rw [e]; rfl)), if_neg (fun e => h5 (by rw [e]; rfl)), if_neg (fun e => h6 (by rw [e]; rfl))]
theorem names_ne {j : Nat} {w : List UInt8} (h : namesL[j]? = some w) : w ≠ [] := by
  have : (namesL.all fun w => !w.isEmpty) = true := by decide
  have := List.all_eq_true.1 this w (List.mem_of_getElem? h)
  intro e; subst e; simp at this
theorem GoodS.moves {s : EfS} (h : GoodS s) (n : Nat) (ks : List Nat) : GoodS (movesS n ks s) := by
  obtain ⟨h1, h2⟩ := h.pops n
  unfold movesS
  generalize (popsS n s).2 = t at h1
  induction ks generalizing t with
  | nil => exact h1
  | cons k ks ih =>
    refine ih _ (h1.push ?_)
    rw [List.getD_eq_getElem?_getD]
    cases hq : (popsS n s).1[k]? with
    | none => intro l e; cases e
    | some x => exact h2 x (List.mem_of_getElem? hq)

set_option maxHeartbeats 4000000 in
theorem f_run_of {kn : KnL} {bw bm n : Nat} (hk : ∀ n i o, knownR kn n = some (i, o) → 0 ≤ i ∧ i ≤ 16 ∧ 0 ≤ o ∧ o ≤ 16) (ih : ∀ m, m < n → RunC (knownR kn) bw bm (entsOf kn) m) : RunC (knownR kn) bw bm (entsOf kn) n := by
  intro bf o s q hn ho hb hg hq hgq
  have hgi : ∀ {k : Nat} {y : Tree}, q[k]? = some y → goodI y = true := by
    intro k y h
    have : ∀ l : List Tree, goodIs l = true → ∀ y ∈ l, goodI y = true := by
      intro l
      induction l with
      | nil => intro _ y hy; cases hy
      | cons t r ihl =>
        intro h y hy
        simp only [goodIs, Bool.and_eq_true] at h
        rcases List.mem_cons.1 hy with rfl | hy
        · exact h.1
        · exact ihl h.2 y hy
    exact this q hgq y (List.mem_of_getElem? h)
  refine ACalls.of_W tb_ok (fn := Tryz.f131) (n := 121) (by kernel_rfl) rfl (by kernel_rfl) rfl rfl (by simp) (go ?_)
  refine VLoop.mk [19] RunI (fun i => [.int .i64 i.k]) (fun i => WM bw bm (entsOf kn) i.t.left ++ FS bf bm bw i.o i.t)
    (fun i => i.k ≤ q.length ∧ okL i.o i.t ∧ Bud i.t ∧ GoodS i.t ∧ i.t.left ≤ n ∧ runL (knownR kn) (q.drop i.k) i.t = runL (knownR kn) q s) (fun i => q.length - i.k) ⟨0, o, s⟩ ?_ ?_
  · exact ⟨⟨Nat.zero_le _, ho, hb, hg, hn, rfl⟩, rfl, VSel.refl _⟩
  rintro ⟨k, o1, t⟩ ⟨hk1, ho1, hb1, hg1, hn1, hI⟩
  dsimp only at hk1 ho1 hb1 hg1 hn1 hI ⊢
  refine go ?_
  refine fork (fun hlt => go ?_) (fun hlt => go ?_)
  · have hlt : k < q.length := by omega
    obtain ⟨y, hy⟩ : ∃ y, q[k]? = some y := ⟨q[k], by simp [hlt]⟩
    have hgy := hgi hy
    have hd : q.drop k = y :: q.drop (k + 1) := by
      rw [List.drop_eq_getElem_cons hlt]
      congr 1
      rw [List.getElem?_eq_getElem hlt] at hy
      exact Option.some.inj hy
    rw [hd, runL_cons hk] at hI
    obtain ⟨b1, b2, b3, b4⟩ := hb1
    refine VNth.mk (itemAV y) (by rw [mulN_eq, itemAVs_map]; simp [hy]) (go ?_)
    refine fork (fun hw => go ?_) (fun hw => go ?_)
    · have hl0 : t.left = 0 := by omega
      rw [if_pos hl0] at hI
      refine VRet.mk [] .nil ?_
      rw [← hI]
      exact ⟨rfl, rfl⟩
    have hl0 : t.left ≠ 0 := by omega
    rw [if_neg hl0] at hI
    obtain ⟨s1, hs1⟩ : ∃ s1 : EfS, s1 = { t with left := t.left - 1 } := ⟨_, rfl⟩
    rw [← hs1] at hI
    have hR := ih (t.left - 1) (by omega)
    have hwk : ((4096 - t.left : Nat) : Int) + 1 = ((4096 - (t.left - 1) : Nat) : Int) := by omega
    rw [hwk]
    cases y with
    | none => simp [goodI] at hgy
    | odd u v => simp [goodI] at hgy
    | int m =>
      have hI : runL (knownR kn) (q.drop (k + 1)) (pushS s1 none) = runL (knownR kn) q s := hI
      obtain ⟨Tl, Ti, Tk⟩ := t
      dsimp only at b1 b2 b3 b4 hs1 hl0 hn1
      have gs : GoodS (pushS s1 none) := GoodS.push (by rw [hs1]; exact hg1) (fun l hl => by cases hl)
      subst hs1
      refine go ?_
      refine VAll.mk (fun b6 => go ?_)
      refine VAll.mk (fun b8 => go ?_)
      refine VDraw.chain [10, 13] (go ?_)
      iterate 6 ((conv => whnf); (apply VQ.mk; focus (refine go ?_; exact ⟨rfl, rfl⟩)))
      refine go ?_
      cases o1 with
      | none =>
        obtain rfl : Tk = [] := ho1 rfl
        refine go ?_
        refine VAll.mk (fun b9 => go ?_)
        refine VObj.mk 5 _ rfl (go ?_)
        refine ⟨⟨k + 1, some (b9, []), pushS ⟨Tl - 1, Ti, []⟩ none⟩, ⟨by dsimp only; omega, (fun h => by cases h), ⟨by dsimp only [pushS]; omega, by dsimp only [pushS]; omega, by simp [pushS] at *; omega, by dsimp only [pushS]; omega⟩, gs, by dsimp only [pushS]; omega, hI⟩, by dsimp only; omega, rfl, ?_⟩
        exact .cons 3 rfl (.cons 3 rfl (.cons 3 rfl (.cons 0 rfl .nil)))
      | some y =>
        obtain ⟨bo, junk⟩ := y
        refine go ?_
        refine VObj.mk 5 _ rfl (go ?_)
        refine VGd.mk ⟨rfl, Nat.zero_le _, app_len _ _, by dsimp only; omega⟩ (go ?_)
        refine VAll.mk (fun b9 => go ?_)
        refine VObj.mk 5 _ rfl (go ?_)
        refine ⟨⟨k + 1, some (b9, []), pushS ⟨Tl - 1, Ti, Tk⟩ none⟩, ⟨by dsimp only; omega, (fun h => by cases h), ⟨by dsimp only [pushS]; omega, by dsimp only [pushS]; omega, by simp [pushS] at *; omega, by dsimp only [pushS]; omega⟩, gs, by dsimp only [pushS]; omega, hI⟩, by dsimp only; omega, rfl, ?_⟩
        rw [fs_app junk]
        exact .cons 3 rfl (.cons 3 rfl (.cons 3 rfl (.cons 0 rfl .nil)))
    | str m =>
      have hI : runL (knownR kn) (q.drop (k + 1)) (pushS s1 none) = runL (knownR kn) q s := hI
      obtain ⟨Tl, Ti, Tk⟩ := t
      dsimp only at b1 b2 b3 b4 hs1 hl0 hn1
      have gs : GoodS (pushS s1 none) := GoodS.push (by rw [hs1]; exact hg1) (fun l hl => by cases hl)
      subst hs1
      refine go ?_
      refine VAll.mk (fun b6 => go ?_)
      refine VAll.mk (fun b8 => go ?_)
      refine VDraw.chain [10, 13] (go ?_)
      iterate 6 ((conv => whnf); (apply VQ.mk; focus (refine go ?_; exact ⟨rfl, rfl⟩)))
      refine go ?_
      cases o1 with
      | none =>
        obtain rfl : Tk = [] := ho1 rfl
        refine go ?_
        refine VAll.mk (fun b9 => go ?_)
        refine VObj.mk 5 _ rfl (go ?_)
        refine ⟨⟨k + 1, some (b9, []), pushS ⟨Tl - 1, Ti, []⟩ none⟩, ⟨by dsimp only; omega, (fun h => by cases h), ⟨by dsimp only [pushS]; omega, by dsimp only [pushS]; omega, by simp [pushS] at *; omega, by dsimp only [pushS]; omega⟩, gs, by dsimp only [pushS]; omega, hI⟩, by dsimp only; omega, rfl, ?_⟩
        exact .cons 3 rfl (.cons 3 rfl (.cons 3 rfl (.cons 0 rfl .nil)))
      | some y =>
        obtain ⟨bo, junk⟩ := y
        refine go ?_
        refine VObj.mk 5 _ rfl (go ?_)
        refine VGd.mk ⟨rfl, Nat.zero_le _, app_len _ _, by dsimp only; omega⟩ (go ?_)
        refine VAll.mk (fun b9 => go ?_)
        refine VObj.mk 5 _ rfl (go ?_)
        refine ⟨⟨k + 1, some (b9, []), pushS ⟨Tl - 1, Ti, Tk⟩ none⟩, ⟨by dsimp only; omega, (fun h => by cases h), ⟨by dsimp only [pushS]; omega, by dsimp only [pushS]; omega, by simp [pushS] at *; omega, by dsimp only [pushS]; omega⟩, gs, by dsimp only [pushS]; omega, hI⟩, by dsimp only; omega, rfl, ?_⟩
        rw [fs_app junk]
        exact .cons 3 rfl (.cons 3 rfl (.cons 3 rfl (.cons 0 rfl .nil)))
    | bool m =>
      have hI : runL (knownR kn) (q.drop (k + 1)) (pushS s1 none) = runL (knownR kn) q s := hI
      obtain ⟨Tl, Ti, Tk⟩ := t
      dsimp only at b1 b2 b3 b4 hs1 hl0 hn1
      have gs : GoodS (pushS s1 none) := GoodS.push (by rw [hs1]; exact hg1) (fun l hl => by cases hl)
      subst hs1
      refine go ?_
      refine VAll.mk (fun b6 => go ?_)
      refine VAll.mk (fun b8 => go ?_)
      refine VDraw.chain [10, 13] (go ?_)
      iterate 6 ((conv => whnf); (apply VQ.mk; focus (refine go ?_; exact ⟨rfl, rfl⟩)))
      refine go ?_
      cases o1 with
      | none =>
        obtain rfl : Tk = [] := ho1 rfl
        refine go ?_
        refine VAll.mk (fun b9 => go ?_)
        refine VObj.mk 5 _ rfl (go ?_)
        refine ⟨⟨k + 1, some (b9, []), pushS ⟨Tl - 1, Ti, []⟩ none⟩, ⟨by dsimp only; omega, (fun h => by cases h), ⟨by dsimp only [pushS]; omega, by dsimp only [pushS]; omega, by simp [pushS] at *; omega, by dsimp only [pushS]; omega⟩, gs, by dsimp only [pushS]; omega, hI⟩, by dsimp only; omega, rfl, ?_⟩
        exact .cons 3 rfl (.cons 3 rfl (.cons 3 rfl (.cons 0 rfl .nil)))
      | some y =>
        obtain ⟨bo, junk⟩ := y
        refine go ?_
        refine VObj.mk 5 _ rfl (go ?_)
        refine VGd.mk ⟨rfl, Nat.zero_le _, app_len _ _, by dsimp only; omega⟩ (go ?_)
        refine VAll.mk (fun b9 => go ?_)
        refine VObj.mk 5 _ rfl (go ?_)
        refine ⟨⟨k + 1, some (b9, []), pushS ⟨Tl - 1, Ti, Tk⟩ none⟩, ⟨by dsimp only; omega, (fun h => by cases h), ⟨by dsimp only [pushS]; omega, by dsimp only [pushS]; omega, by simp [pushS] at *; omega, by dsimp only [pushS]; omega⟩, gs, by dsimp only [pushS]; omega, hI⟩, by dsimp only; omega, rfl, ?_⟩
        rw [fs_app junk]
        exact .cons 3 rfl (.cons 3 rfl (.cons 3 rfl (.cons 0 rfl .nil)))
    | box m =>
      have hI : runL (knownR kn) (q.drop (k + 1)) (pushS s1 none) = runL (knownR kn) q s := hI
      obtain ⟨Tl, Ti, Tk⟩ := t
      dsimp only at b1 b2 b3 b4 hs1 hl0 hn1
      have gs : GoodS (pushS s1 none) := GoodS.push (by rw [hs1]; exact hg1) (fun l hl => by cases hl)
      subst hs1
      refine go ?_
      refine VAll.mk (fun b6 => go ?_)
      refine VAll.mk (fun b8 => go ?_)
      refine VDraw.chain [10, 13] (go ?_)
      iterate 6 ((conv => whnf); (apply VQ.mk; focus (refine go ?_; exact ⟨rfl, rfl⟩)))
      refine go ?_
      cases o1 with
      | none =>
        obtain rfl : Tk = [] := ho1 rfl
        refine go ?_
        refine VAll.mk (fun b9 => go ?_)
        refine VObj.mk 5 _ rfl (go ?_)
        refine ⟨⟨k + 1, some (b9, []), pushS ⟨Tl - 1, Ti, []⟩ none⟩, ⟨by dsimp only; omega, (fun h => by cases h), ⟨by dsimp only [pushS]; omega, by dsimp only [pushS]; omega, by simp [pushS] at *; omega, by dsimp only [pushS]; omega⟩, gs, by dsimp only [pushS]; omega, hI⟩, by dsimp only; omega, rfl, ?_⟩
        exact .cons 3 rfl (.cons 3 rfl (.cons 3 rfl (.cons 0 rfl .nil)))
      | some y =>
        obtain ⟨bo, junk⟩ := y
        refine go ?_
        refine VObj.mk 5 _ rfl (go ?_)
        refine VGd.mk ⟨rfl, Nat.zero_le _, app_len _ _, by dsimp only; omega⟩ (go ?_)
        refine VAll.mk (fun b9 => go ?_)
        refine VObj.mk 5 _ rfl (go ?_)
        refine ⟨⟨k + 1, some (b9, []), pushS ⟨Tl - 1, Ti, Tk⟩ none⟩, ⟨by dsimp only; omega, (fun h => by cases h), ⟨by dsimp only [pushS]; omega, by dsimp only [pushS]; omega, by simp [pushS] at *; omega, by dsimp only [pushS]; omega⟩, gs, by dsimp only [pushS]; omega, hI⟩, by dsimp only; omega, rfl, ?_⟩
        rw [fs_app junk]
        exact .cons 3 rfl (.cons 3 rfl (.cons 3 rfl (.cons 0 rfl .nil)))
    | list m =>
      have hI : runL (knownR kn) (q.drop (k + 1)) (pushS s1 none) = runL (knownR kn) q s := hI
      obtain ⟨Tl, Ti, Tk⟩ := t
      dsimp only at b1 b2 b3 b4 hs1 hl0 hn1
      have gs : GoodS (pushS s1 none) := GoodS.push (by rw [hs1]; exact hg1) (fun l hl => by cases hl)
      subst hs1
      refine go ?_
      refine VAll.mk (fun b6 => go ?_)
      refine VAll.mk (fun b8 => go ?_)
      refine VDraw.chain [10, 13] (go ?_)
      iterate 6 ((conv => whnf); (apply VQ.mk; focus (refine go ?_; exact ⟨rfl, rfl⟩)))
      refine go ?_
      cases o1 with
      | none =>
        obtain rfl : Tk = [] := ho1 rfl
        refine go ?_
        refine VAll.mk (fun b9 => go ?_)
        refine VObj.mk 5 _ rfl (go ?_)
        refine ⟨⟨k + 1, some (b9, []), pushS ⟨Tl - 1, Ti, []⟩ none⟩, ⟨by dsimp only; omega, (fun h => by cases h), ⟨by dsimp only [pushS]; omega, by dsimp only [pushS]; omega, by simp [pushS] at *; omega, by dsimp only [pushS]; omega⟩, gs, by dsimp only [pushS]; omega, hI⟩, by dsimp only; omega, rfl, ?_⟩
        exact .cons 3 rfl (.cons 3 rfl (.cons 3 rfl (.cons 0 rfl .nil)))
      | some y =>
        obtain ⟨bo, junk⟩ := y
        refine go ?_
        refine VObj.mk 5 _ rfl (go ?_)
        refine VGd.mk ⟨rfl, Nat.zero_le _, app_len _ _, by dsimp only; omega⟩ (go ?_)
        refine VAll.mk (fun b9 => go ?_)
        refine VObj.mk 5 _ rfl (go ?_)
        refine ⟨⟨k + 1, some (b9, []), pushS ⟨Tl - 1, Ti, Tk⟩ none⟩, ⟨by dsimp only; omega, (fun h => by cases h), ⟨by dsimp only [pushS]; omega, by dsimp only [pushS]; omega, by simp [pushS] at *; omega, by dsimp only [pushS]; omega⟩, gs, by dsimp only [pushS]; omega, hI⟩, by dsimp only; omega, rfl, ?_⟩
        rw [fs_app junk]
        exact .cons 3 rfl (.cons 3 rfl (.cons 3 rfl (.cons 0 rfl .nil)))
    | quot m =>
      have hgx : GoodX (some m) := by
        simp only [goodI, Bool.and_eq_true, decide_eq_true_eq] at hgy
        intro l hl; cases hl; exact hgy
      have hI : runL (knownR kn) (q.drop (k + 1)) (pushS s1 (some m)) = runL (knownR kn) q s := hI
      obtain ⟨Tl, Ti, Tk⟩ := t
      dsimp only at b1 b2 b3 b4 hs1 hl0 hn1
      have gs : GoodS (pushS s1 (some m)) := GoodS.push (by rw [hs1]; exact hg1) hgx
      subst hs1
      refine go ?_
      refine VAll.mk (fun b6 => go ?_)
      refine VAll.mk (fun b8 => go ?_)
      refine VDraw.chain [10, 13] (go ?_)
      iterate 6 ((conv => whnf); (apply VQ.mk; focus (refine go ?_; exact ⟨rfl, rfl⟩)))
      refine go ?_
      cases o1 with
      | none =>
        obtain rfl : Tk = [] := ho1 rfl
        refine go ?_
        refine VAll.mk (fun b9 => go ?_)
        refine VObj.mk 5 _ rfl (go ?_)
        refine ⟨⟨k + 1, some (b9, []), pushS ⟨Tl - 1, Ti, []⟩ (some m)⟩, ⟨by dsimp only; omega, (fun h => by cases h), ⟨by dsimp only [pushS]; omega, by dsimp only [pushS]; omega, by simp [pushS] at *; omega, by dsimp only [pushS]; omega⟩, gs, by dsimp only [pushS]; omega, hI⟩, by dsimp only; omega, rfl, ?_⟩
        exact .cons 3 rfl (.cons 3 rfl (.cons 3 rfl (.cons 0 rfl .nil)))
      | some y =>
        obtain ⟨bo, junk⟩ := y
        refine go ?_
        refine VObj.mk 5 _ rfl (go ?_)
        refine VGd.mk ⟨rfl, Nat.zero_le _, app_len _ _, by dsimp only; omega⟩ (go ?_)
        refine VAll.mk (fun b9 => go ?_)
        refine VObj.mk 5 _ rfl (go ?_)
        refine ⟨⟨k + 1, some (b9, []), pushS ⟨Tl - 1, Ti, Tk⟩ (some m)⟩, ⟨by dsimp only; omega, (fun h => by cases h), ⟨by dsimp only [pushS]; omega, by dsimp only [pushS]; omega, by simp [pushS] at *; omega, by dsimp only [pushS]; omega⟩, gs, by dsimp only [pushS]; omega, hI⟩, by dsimp only; omega, rfl, ?_⟩
        rw [fs_app junk]
        exact .cons 3 rfl (.cons 3 rfl (.cons 3 rfl (.cons 0 rfl .nil)))
    | call name =>
      have hne : name ≠ [] := by
        simp only [goodI] at hgy
        intro e; subst e; simp at hgy
      have gs1 : GoodS s1 := by rw [hs1]; exact hg1
      have ho1' : okL o1 s1 := by rw [hs1]; exact ho1
      have l1 : s1.left = t.left - 1 := by rw [hs1]
      have l2 : s1.inn = t.inn := by rw [hs1]
      have l3 : s1.stk = t.stk := by rw [hs1]
      have hnext : ∀ (o' : LR) (T : EfS), stepS (runL (knownR kn)) (knownR kn) (.call name) s1 = .ok T → okL o' T → GoodS T →
          k + 1 ≤ q.length ∧ okL o' T ∧ Bud T ∧ GoodS T ∧ T.left ≤ n ∧ runL (knownR kn) (q.drop (k + 1)) T = runL (knownR kn) q s := by
        intro o' T h1 h2 h3
        rw [h1] at hI
        obtain ⟨c1, c2, c3, c4⟩ := stepS_gr hk (fun q s t h => runL_gr hk h) h1
        rw [l1] at c1 c3 c4
        rw [l2] at c2 c3
        rw [l3] at c4
        exact ⟨by omega, h2, ⟨by omega, by omega, by omega, by omega⟩, h3, by omega, hI⟩
      have herr : ∀ e, stepS (runL (knownR kn)) (knownR kn) (.call name) s1 = .error e → runL (knownR kn) q s = .error e := by
        intro e h1
        rw [h1] at hI
        exact hI.symm
      have hfs : FS bf bm bw o1 t = FS bf bm bw o1 s1 := by unfold FS fbox; rw [l2, l3]
      rw [hfs, ← l1]
      clear hI
      refine go ?_
      refine VAll.mk (fun b6 => go ?_)
      have hP := f_Prim name
      refine Fn.use (hP) (go ?_)
      refine VAll.mk (fun b11 => go ?_)
      refine Fn.use (f_Names) (go ?_)
      refine VLoop.mk [10, 12, 75] MvI (fun i => [.str (i.nm name), .bool (i.ok name), .int .i64 i.j]) (fun i => [(b11, .box [.int .i64 (((primR name).map (·.1)).getD 0 : Nat), .int .i64 (((primR name).map (·.2)).getD 0 : Nat)])] ++ (WM bw bm (entsOf kn) s1.left ++ FS bf bm bw i.o (i.st s1)))
        (fun i => i.j ≤ 52 ∧ okL i.o (i.st s1) ∧ i.at name) (fun i => 52 - i.j) ⟨0, o1, none⟩ ?_ ?_
      · exact ⟨⟨Nat.zero_le _, ho1', fun i hi => absurd hi (Nat.not_lt_zero _)⟩, rfl, .cons 0 rfl (VSel.skip (VSel.refl _) _)⟩
      rintro ⟨j, o2, mv⟩ ⟨hj, ho2, hat⟩
      dsimp only at hj ho2 hat ⊢
      cases mv with
      | none =>
        have ho2 : okL o2 s1 := ho2
        dsimp only [MvI.nm, MvI.ok, MvI.st]
        have hat : ∀ a, a < j → a < 7 → namesL[a]? ≠ some name := hat
        refine go ?_
        refine fork (fun hlt => go ?_) (fun hlt => go ?_)
        · have hlt : j < 52 := by omega
          obtain ⟨w, hw⟩ : ∃ w, namesL[j]? = some w := ⟨_, List.getElem?_eq_getElem (show j < namesL.length from hlt)⟩
          refine VNth.mk (.str w) (by rw [mulN_eq]; simp [hw]) (go ?_)
          have hskip : (j < 7 → w ≠ name) → ∀ a, a < j + 1 → a < 7 → namesL[a]? ≠ some name := by
            intro h a h1 h2 h3
            by_cases e : a = j
            · subst e; rw [hw] at h3; exact h h2 (Option.some.inj h3)
            · exact hat a (by omega) h2 h3
          refine fork (fun h7 => go ?_) (fun h7 => go ?_)
          · refine fork (fun hwn => go ?_) (fun hwn => go ?_)
            · have hwn : w = name := by simpa using hwn
              obtain ⟨⟨mk, mks⟩, hx⟩ := moved_of (by omega) (hwn ▸ hw)
              refine move_c [_] hx ho2 ⟨by omega, by omega, by rw [l3]; omega⟩ fun o3 ho3 => ?_
              refine go ?_
              exact ⟨⟨j + 1, o3, some (mk, mks)⟩, ⟨by dsimp only; omega, ho3, hx⟩, by dsimp only; omega, rfl, VSel.refl _⟩
            · have hwn : ¬ w = name := by simpa using hwn
              exact ⟨⟨j + 1, o2, none⟩, ⟨by dsimp only; omega, ho2, hskip fun _ => hwn⟩, by dsimp only; omega, rfl, VSel.refl _⟩
          · exact ⟨⟨j + 1, o2, none⟩, ⟨by dsimp only; omega, ho2, hskip fun h => absurd h (by omega)⟩, by dsimp only; omega, rfl, VSel.refl _⟩
        · have hm := moved_no fun a h1 h2 => hat a (by omega) h1 h2
          refine VIf.no (by simpa using hne) (go ?_)
          refine control_c [_] rfl hk hR (by omega) ho2 ⟨by omega, by omega, by rw [l3]; omega, by omega⟩ gs1 (fun hc => ?_) (fun T o3 hc ho3 hg3 => ?_) (fun e hc => ?_)
          · cases hpr : primR name with
            | some x =>
              obtain ⟨pi, pu⟩ := x
              have hle := primR_le hpr
              have hst : stepS (runL (knownR kn)) (knownR kn) (.call name) s1 = .ok (applyS pi pu s1) := by
                unfold stepS; dsimp only; rw [hm, hc, hpr]
              refine go ?_
              refine apply_c (l := s1.left) (i := (pi : Int)) (u := (pu : Int)) [_] ho2 ⟨by omega, by omega, by rw [l3]; omega⟩ (by omega) (by omega) fun o6 ho6 => ?_
              refine go ?_
              refine ⟨⟨k + 1, o6, applyS pi pu s1⟩, hnext o6 _ hst ho6 (gs1.apply _ _), by dsimp only; omega, rfl, ?_⟩
              dsimp only
              rw [applyS_left]
              exact VSel.skip (VSel.refl _) _
            | none =>
              refine go ?_
              obtain ⟨r, hr1, hr2⟩ := mapFind_ents name kn 0
              refine VMap.mk r hr1 ?_
              cases hkn : knownR kn name with
              | none =>
                rw [hkn] at hr2
                cases r with
                | some p => simp at hr2
                | none =>
                  have hst : stepS (runL (knownR kn)) (knownR kn) (.call name) s1 = .error 10 := by
                    unfold stepS; dsimp only; rw [hm, hc, hpr, hkn]
                  refine go ?_
                  refine VAll.mk (fun b15 => go ?_)
                  refine VRet.mk [] .nil ?_
                  rw [herr 10 hst]
                  exact ⟨rfl, rfl⟩
              | some x =>
                obtain ⟨xi, xu⟩ := x
                have hle := hk _ _ _ hkn
                rw [hkn] at hr2
                cases r with
                | none => simp at hr2
                | some p =>
                  obtain ⟨pi, pv⟩ := p
                  obtain rfl : pv = .agg [.int .i64 xi, .int .i64 xu] := by simpa using hr2
                  have hst : stepS (runL (knownR kn)) (knownR kn) (.call name) s1 = .ok (applyS xi.toNat xu.toNat s1) := by
                    unfold stepS; dsimp only; rw [hm, hc, hpr, hkn]
                  refine go ?_
                  refine VAll.mk (fun b15 => go ?_)
                  refine apply_c (l := s1.left) (i := xi) (u := xu) [_, _] ho2 ⟨by omega, by omega, by rw [l3]; omega⟩ (by omega) (by omega) fun o6 ho6 => ?_
                  refine go ?_
                  refine ⟨⟨k + 1, o6, applyS xi.toNat xu.toNat s1⟩, hnext o6 _ hst ho6 (gs1.apply _ _), by dsimp only; omega, rfl, ?_⟩
                  dsimp only
                  rw [applyS_left]
                  exact VSel.skip (VSel.skip (VSel.refl _) _) _
          · have hst : stepS (runL (knownR kn)) (knownR kn) (.call name) s1 = .ok T := by
              unfold stepS; dsimp only; rw [hm, hc]
            refine go ?_
            exact ⟨⟨k + 1, o3, T⟩, hnext o3 T hst ho3 hg3, by dsimp only; omega, rfl, VSel.skip (VSel.refl _) _⟩
          · have hst : stepS (runL (knownR kn)) (knownR kn) (.call name) s1 = .error e := by
              unfold stepS; dsimp only; rw [hm, hc]
            refine go ?_
            refine VRet.mk [] .nil ?_
            rw [herr e hst]
            exact ⟨rfl, rfl⟩
      | some x =>
        obtain ⟨mk, mks⟩ := x
        have ho2 : okL o2 (movesS mk mks s1) := ho2
        dsimp only [MvI.nm, MvI.ok, MvI.st]
        have hat : moveR name = some (mk, mks) := hat
        refine go ?_
        refine fork (fun hlt => go ?_) (fun hlt => go ?_)
        · have hlt : j < 52 := by omega
          obtain ⟨w, hw⟩ : ∃ w, namesL[j]? = some w := ⟨_, List.getElem?_eq_getElem (show j < namesL.length from hlt)⟩
          refine VNth.mk (.str w) (by rw [mulN_eq]; simp [hw]) (go ?_)
          have hwn := names_ne hw
          refine fork (fun h7 => go ?_) (fun h7 => go ?_)
          · refine VIf.no (by simpa using hwn) (go ?_)
            exact ⟨⟨j + 1, o2, some (mk, mks)⟩, ⟨by dsimp only; omega, ho2, hat⟩, by dsimp only; omega, rfl, VSel.refl _⟩
          · exact ⟨⟨j + 1, o2, some (mk, mks)⟩, ⟨by dsimp only; omega, ho2, hat⟩, by dsimp only; omega, rfl, VSel.refl _⟩
        · have hst : stepS (runL (knownR kn)) (knownR kn) (.call name) s1 = .ok (movesS mk mks s1) := by
            unfold stepS; dsimp only; rw [hat]
          have hl := movesS_left mk mks s1
          refine ⟨⟨k + 1, o2, movesS mk mks s1⟩, hnext o2 _ hst ho2 (gs1.moves _ _), by dsimp only; omega, rfl, ?_⟩
          dsimp only
          rw [hl]
          exact VSel.skip (VSel.refl _) _
  · have : k = q.length := by omega
    subst this
    rw [List.drop_length, runL_nil] at hI
    refine VRet.mk _ (VSel.refl _) ?_
    rw [← hI]
    exact ⟨rfl, hg1, o1, ho1, rfl⟩
theorem f_run {kn : KnL} {bw bm : Nat} (hk : ∀ n i o, knownR kn n = some (i, o) → 0 ≤ i ∧ i ≤ 16 ∧ 0 ≤ o ∧ o ≤ 16) (n : Nat) : RunC (knownR kn) bw bm (entsOf kn) n := by
  induction n using Nat.strongRecOn with
  | _ n ih => exact f_run_of hk ih
end Go.Proofs.YtliabblchkgclaaGreatDoor

namespace Go.Proofs.YtliabblchkgclaaGreatDoor
open Go Go.Av
def fitsR (i u : Int) : Bool := decide (0 ≤ min i u) && decide (max i u ≤ 16)
theorem fitsR_iff {i u : Int} : fitsR i u = true ↔ 0 ≤ i ∧ i ≤ 16 ∧ 0 ≤ u ∧ u ≤ 16 := by
  simp only [fitsR, Bool.and_eq_true, decide_eq_true_eq]; omega
theorem f_fits (i u : Int) : Av.Fn Tryz.prog 129 [.agg [.int .i64 i, .int .i64 u]] (.bool (fitsR i u)) := by
  refine ACalls.of_W tb_ok (fn := Tryz.f129) (n := 17) (by kernel_rfl) rfl (by kernel_rfl) rfl rfl (by simp) (go ?_)
  refine VAll.mk (fun b => go ?_)
  unfold fitsR
  refine fork (fun h => go ?_) (fun h => go ?_)
  · refine VRet.mk [] .nil ?_
    have h : 0 ≤ min i u := by simpa using h
    exact ⟨by rw [decide_eq_true h, Bool.true_and], rfl⟩
  · refine VRet.mk [] .nil ?_
    have h : ¬ 0 ≤ min i u := by simpa using h
    exact ⟨by rw [decide_eq_false h, Bool.false_and], rfl⟩
theorem f_Of1_ok (b4 b5 : Nat) (st : St) {K : St → Prop} (k : K st) : DCalls Tryz.prog 130 [.ptr b4 0, .ptr b5 0] st none K := by
  refine DCalls.use (s := []) (R := st) (K := fun st' => st' = []) ?_ (.refl _) (fun s' h => by rw [h]; exact k)
  refine DCalls.of_Ws tb_ok (fn := Tryz.f130) (n := 19) (by kernel_rfl) rfl (by kernel_rfl) rfl rfl (by simp) (go ?_)
  refine VRet.mk [] .nil ?_
  rfl
theorem f_Of1_panic (b4 b5 : Nat) (x y z : AV) (e : Int) : DCalls Tryz.prog 130 [.ptr b4 0, .ptr b5 0] [(b4, .box [x, y]), (b5, .box [z])] (some (stopV e)) fun st' => st' = [(b4, .box [.int .i64 0, .int .i64 0]), (b5, .box [.int .i64 e])] := by
  refine DCalls.of_Ws tb_ok (fn := Tryz.f130) (n := 19) (by kernel_rfl) rfl (by kernel_rfl) rfl rfl (by simp) (go ?_)
  refine VAll.mk (fun b3 => go ?_)
  refine VDraw.all (go ?_)
  refine VAny.mk Unit [] (fun _ => []) (fun _ => [(b3, .box [.int .i64 e]), (b4, .box [.int .i64 0, .int .i64 0]), (b5, .box [.int .i64 e])]) ?_ fun _ => ?_
  · exact anyd
  refine go ?_
  exact VRet.mk [(b4, .box [.int .i64 0, .int .i64 0]), (b5, .box [.int .i64 e])] (.cons 1 rfl (.cons 1 rfl .nil)) rfl
/-- The first of each name. -/
def addK (kn : KnL) (x : List UInt8 × Int × Int) : KnL := if (knownR kn x.1).isSome then kn else kn ++ [x]
def firsts (kl : KnL) : KnL := kl.foldl addK []
theorem firsts_next {kl : KnL} {j : Nat} {x : List UInt8 × Int × Int} (h : kl[j]? = some x) : firsts (kl.take (j + 1)) = addK (firsts (kl.take j)) x := by
  rw [take_succ_at h, firsts, List.foldl_append]; rfl
def fitsK (kl : KnL) : Bool := kl.all fun x => fitsR x.2.1 x.2.2
theorem firsts_mem {kl : KnL} {x : List UInt8 × Int × Int} : x ∈ firsts kl → x ∈ kl := by
  have : ∀ (kl kn : KnL), x ∈ kl.foldl addK kn → x ∈ kn ∨ x ∈ kl := by
    intro kl
    induction kl with
    | nil => intro kn h; exact .inl h
    | cons y kl ih =>
      intro kn h
      rcases ih _ h with h | h
      · unfold addK at h
        split at h
        · exact .inl h
        · rcases List.mem_append.1 h with h | h
          · exact .inl h
          · rw [List.mem_singleton.1 h]; exact .inr (List.mem_cons_self ..)
      · exact .inr (List.mem_cons_of_mem _ h)
  intro h
  rcases this kl [] h with h | h
  · cases h
  · exact h
theorem firsts_fit {kl : KnL} (h : fitsK kl = true) : ∀ n i o, knownR (firsts kl) n = some (i, o) → 0 ≤ i ∧ i ≤ 16 ∧ 0 ≤ o ∧ o ≤ 16 := by
  intro n i o hk
  unfold knownR at hk
  simp only [Option.map_eq_some_iff] at hk
  obtain ⟨x, hx, he⟩ := hk
  have := List.all_eq_true.1 h x (firsts_mem (List.mem_of_find?_eq_some hx))
  rw [he] at this
  exact fitsR_iff.1 this
def checkR (l : List Tree) : Bool := (measT false (.quot l) 1024 0).isSome
noncomputable def ofR (l : List Tree) (kl : KnL) : Int × Int × Int :=
  if checkR l = false then (0, 0, 1) else if fitsK kl = false then (0, 0, 1) else match runL (knownR (firsts kl)) l ⟨4096, 0, []⟩ with
    | .error e => (0, 0, e)
    | .ok t => if fitsR t.inn t.stk.length = true then (t.inn, (t.stk.length : Int), 0) else (0, 0, 11)
def ofV (x : Int × Int × Int) : AV := .tup [.agg [.int .i64 x.1, .int .i64 x.2.1], .int .i64 x.2.2]
/-- Words whose effect is known, in memory. -/
def knC : KnL → List AV
  | [] => []
  | x :: r => .str x.1 :: .int .i64 x.2.1 :: .int .i64 x.2.2 :: knC r
theorem knC_at {kl : KnL} {i : Nat} {x : List UInt8 × Int × Int} (h : kl[i]? = some x) : (List.drop (mulN i 3) (knC kl)).take 3 = [.str x.1, .int .i64 x.2.1, .int .i64 x.2.2] := by
  rw [mulN_eq]
  induction kl generalizing i with
  | nil => simp at h
  | cons y r ih =>
    cases i with
    | zero => simp at h; subst h; rfl
    | succ i =>
      have h : r[i]? = some x := by simpa using h
      rw [show (i + 1) * 3 = i * 3 + 1 + 1 + 1 by omega]
      exact ih h
theorem f_CheckItems {l : List Tree} (hc : (Tree.quot l).clean = true) (hs : (Tree.quot l).nmS = true) : Av.Fn Tryz.prog 34 [.fz (itemAVs l) l.length false] (.int .i64 (if checkR l = true then 0 else 1)) := by
  have h := f_tCheck hc hs
  refine ACalls.of_W tb_ok (fn := Tryz.f34) (n := 7) (by kernel_rfl) rfl (by kernel_rfl) rfl rfl (by simp) (go ?_)
  refine Fn.use (h) (go ?_)
  refine VRet.mk [] .nil ?_
  exact ⟨rfl, rfl⟩
theorem nameR_nil : nameR [] = false := by decide +kernel
mutual
theorem good_of : ∀ (it : Bool) (t : Tree) (left nest : Int), t.clean = true → (measT it t left nest).isSome = true → goodI t = true
  | it, .none, left, nest, _, h => by rw [measT] at h; cases h
  | it, .odd u v, left, nest, _, h => by rw [measT] at h; cases h
  | it, .int m, left, nest, _, h => rfl
  | it, .str m, left, nest, _, h => rfl
  | it, .bool m, left, nest, _, h => rfl
  | it, .box m, left, nest, _, h => rfl
  | it, .list m, left, nest, _, h => rfl
  | it, .call s, left, nest, _, h => by
    rw [measT] at h
    split at h
    · rename_i hc
      cases s with
      | nil => simp [nmR, nameR_nil] at hc
      | cons c s => rfl
    · cases h
  | it, .quot l, left, nest, hc, h => by
    rw [measT] at h
    simp only [Tree.clean, Bool.and_eq_true, decide_eq_true_eq] at hc
    split at h
    · cases h
    · simp only [goodI, Bool.and_eq_true, decide_eq_true_eq]
      exact ⟨hc.1, goods_of true l _ _ _ hc.2 h⟩
theorem goods_of : ∀ (it : Bool) (l : List Tree) (left nest depth : Int), cleanAll l = true → (measTs it l left nest depth).isSome = true → goodIs l = true
  | it, [], left, nest, depth, _, h => rfl
  | it, t :: r, left, nest, depth, hc, h => by
    simp only [cleanAll, Bool.and_eq_true] at hc
    rw [measTs] at h
    simp only [goodIs, Bool.and_eq_true]
    cases hm : measT it t left (nest + 1) with
    | none => rw [hm] at h; cases h
    | some x =>
      obtain ⟨d, l'⟩ := x
      rw [hm] at h
      exact ⟨good_of it t _ _ hc.1 (by rw [hm]; rfl), goods_of it r _ _ _ hc.2 h⟩
end
theorem good_check {l : List Tree} (hc : (Tree.quot l).clean = true) (h : checkR l = true) : l.length ≤ 2513169434916 ∧ goodIs l = true := by
  have := good_of false (.quot l) 1024 0 hc h
  simpa only [goodI, Bool.and_eq_true, decide_eq_true_eq] using this

set_option maxHeartbeats 4000000 in
theorem f_Of (l : List Tree) (kl : KnL) (hc : (Tree.quot l).clean = true) (hs : (Tree.quot l).nmS = true) (hkl : kl.length ≤ 4398046511104) :
    Av.Fn Tryz.prog 103 [.fz (itemAVs l) l.length false, .fz (knC kl) kl.length false] (ofV (ofR l kl)) := by
  have hC := f_CheckItems hc hs
  have hgc := good_check hc
  unfold ofR
  generalize checkR l = c at hC hgc
  refine ACalls.of_Wd tb_ok (fn := Tryz.f103) (n := 70) (by kernel_rfl) rfl (by kernel_rfl) rfl rfl (by simp) (go ?_)
  refine VAll.mk (fun b4 => go ?_)
  refine VAll.mk (fun b5 => go ?_)
  refine Fn.use (hC) (go ?_)
  cases c with
  | false =>
    refine go ?_
    refine VRet.mk [] .nil ?_
    exact ⟨rfl, rfl⟩
  | true =>
    obtain ⟨hl, hg⟩ := hgc rfl
    refine go ?_
    refine VAll.mk (fun bm => go ?_)
    refine VAll.mk (fun bw => go ?_)
    refine VAll.mk (fun bf => go ?_)
    refine VLoop.mk [21] Nat (fun j => [.int .i64 j]) (fun j => [(bm, .map (entsOf (firsts (kl.take j)))), (bf, .box [.mapr bm, .ptr bw 0, .int .i64 0, .nils]), (b5, .box [.int .i64 0]), (b4, .box [.int .i64 0, .int .i64 0]), (bw, .box [.int .i64 0])])
      (fun j => j ≤ kl.length ∧ fitsK (kl.drop j) = fitsK kl) (fun j => kl.length - j) 0 ?_ ?_
    · exact ⟨⟨Nat.zero_le _, rfl⟩, rfl, .cons 2 rfl (.cons 0 rfl (.cons 1 rfl (.cons 1 rfl (.cons 0 rfl .nil))))⟩
    rintro j ⟨hj, hI⟩
    dsimp only at hj hI ⊢
    refine go ?_
    refine fork (fun hlt => go ?_) (fun hlt => go ?_)
    · have hlt : j < kl.length := by omega
      obtain ⟨x, hx⟩ : ∃ x, kl[j]? = some x := ⟨kl[j], by simp [hlt]⟩
      have hd : kl.drop j = x :: kl.drop (j + 1) := by
        rw [List.drop_eq_getElem_cons hlt]
        congr 1
        rw [List.getElem?_eq_getElem hlt] at hx
        exact Option.some.inj hx
      have hfk : fitsK kl = (fitsR x.2.1 x.2.2 && fitsK (kl.drop (j + 1))) := by rw [← hI, hd]; rfl
      have hF := f_fits x.2.1 x.2.2
      refine VTake.mk [.str x.1, .int .i64 x.2.1, .int .i64 x.2.2] (knC_at hx) (by simp) (go ?_)
      refine VAll.mk (fun b8 => go ?_)
      refine Fn.use (hF) (go ?_)
      generalize fitsR x.2.1 x.2.2 = fx at hfk
      cases fx with
      | false =>
        refine go ?_
        refine VRet.mk [] .nil ?_
        rw [hfk]
        exact ⟨rfl, rfl⟩
      | true =>
        rw [Bool.true_and] at hfk
        obtain ⟨r, hr1, hr2⟩ := mapFind_ents x.1 (firsts (kl.take j)) 0
        have hnx := firsts_next hx
        unfold addK at hnx
        refine go ?_
        have hI' : j + 1 ≤ kl.length ∧ fitsK (kl.drop (j + 1)) = fitsK kl := ⟨by omega, hfk.symm⟩
        cases hkn : knownR (firsts (kl.take j)) x.1 with
        | none =>
          rw [hkn] at hr2
          rw [hkn, Option.isSome_none, if_neg (by simp)] at hnx
          cases r with
          | some p => simp at hr2
          | none =>
            refine VDraw.chain [10, 11] (go ?_)
            apply VQ.mk
            focus (refine go ?_; refine VMap.mk none hr1 (go ?_); exact ⟨rfl, rfl⟩)
            refine go ?_
            refine VAll.mk (fun b9 => go ?_)
            refine VDraw.chain [8] (go ?_)
            refine VMap.mk none hr1 (go ?_)
            refine ⟨j + 1, hI', by omega, rfl, ?_⟩
            rw [hnx]
            exact .cons 2 (congrArg (fun c => some (bm, AObj.map c)) (by simp [entsOf])) (.cons 2 rfl (.cons 2 rfl (.cons 2 rfl (.cons 2 rfl .nil))))
        | some y =>
          rw [hkn] at hr2
          rw [hkn, Option.isSome_some, if_pos rfl] at hnx
          cases r with
          | none => simp at hr2
          | some p =>
            obtain ⟨pi, pv⟩ := p
            obtain rfl : pv = .agg [.int .i64 y.1, .int .i64 y.2] := by simpa using hr2
            refine VDraw.chain [10, 11] (go ?_)
            apply VQ.mk
            focus (refine go ?_; refine VMap.mk _ hr1 (go ?_); exact ⟨rfl, rfl⟩)
            refine go ?_
            refine VAll.mk (fun b9 => go ?_)
            refine ⟨j + 1, hI', by omega, rfl, ?_⟩
            rw [hnx]
            exact VSel.skip (VSel.skip (VSel.refl _) _) _
    · have hje : j = kl.length := by omega
      subst hje
      rw [List.drop_length] at hI
      have hfk : fitsK kl = true := hI.symm
      rw [List.take_length, hfk]
      have hk := firsts_fit hfk
      refine run_c (n := 4096) (l := 4096) (o := none) (s := ⟨4096, 0, []⟩) [(b5, .box [.int .i64 0]), (b4, .box [.int .i64 0, .int .i64 0])] (List.perm_append_comm (l₁ := [_, _, _]) (l₂ := [_, _])) rfl (f_run hk 4096) (Nat.le_refl _) (fun _ => rfl) ⟨by decide, by decide, by decide, by decide⟩ (fun x hx => by cases hx) hl hg
        (fun t o' e ho' hg' => ?_) (fun e he => ?_)
      · obtain ⟨Tl, Ti, Tk⟩ := t
        have hF := f_fits Ti (Tk.length : Int)
        cases o' with
        | none =>
          obtain rfl : Tk = [] := ho' rfl
          refine go ?_
          refine VDraw.chain [10] (go ?_)
          iterate 7 ((conv => whnf); (apply VQ.mk; focus (refine go ?_; exact ⟨rfl, rfl⟩)))
          refine go ?_
          refine Fn.use (hF) (go ?_)
          cases hf : fitsR Ti _ with
          | false =>
            refine go ?_
            refine f_Of1_ok b4 b5 _ (go ?_)
            refine VRet.mk [] .nil ?_
            rw [if_neg (by simp), if_neg (by simp), e]
            dsimp only
            rw [if_neg (by rw [hf]; simp)]
            exact ⟨rfl, rfl⟩
          | true =>
            refine go ?_
            refine f_Of1_ok b4 b5 _ (go ?_)
            refine VRet.mk [] .nil ?_
            rw [if_neg (by simp), if_neg (by simp), e]
            dsimp only
            rw [if_pos hf]
            exact ⟨rfl, rfl⟩
        | some y =>
          refine go ?_
          refine VDraw.chain [10] (go ?_)
          iterate 7 ((conv => whnf); (apply VQ.mk; focus (refine go ?_; exact ⟨rfl, rfl⟩)))
          refine go ?_
          refine Fn.use (hF) (go ?_)
          cases hf : fitsR Ti _ with
          | false =>
            refine go ?_
            refine f_Of1_ok b4 b5 _ (go ?_)
            refine VRet.mk [] .nil ?_
            rw [if_neg (by simp), if_neg (by simp), e]
            dsimp only
            rw [if_neg (by rw [hf]; simp)]
            exact ⟨rfl, rfl⟩
          | true =>
            refine go ?_
            refine f_Of1_ok b4 b5 _ (go ?_)
            refine VRet.mk [] .nil ?_
            rw [if_neg (by simp), if_neg (by simp), e]
            dsimp only
            rw [if_pos hf]
            exact ⟨rfl, rfl⟩
      · refine go ?_
        refine DCalls.use (R := []) (f_Of1_panic b4 b5 _ _ _ e) (.swap _ _ _) ?_
        intro s' hs'
        subst hs'
        refine go ?_
        refine VRet.mk [] .nil ?_
        rw [if_neg (by simp), if_neg (by simp), he]
        exact ⟨rfl, rfl⟩
end Go.Proofs.YtliabblchkgclaaGreatDoor

namespace Go.Proofs.YtliabblchkgclaaGreatDoor
open Go Go.Av
def RV.knd : RV → Int
  | .mk k _ _ _ => k
def RV.txt : RV → List UInt8
  | .mk _ _ s _ => s
mutual
/-- The value of a tree. -/
def valT : RV → Tree
  | .mk k n s l => if k = 1 then .int n else if k = 2 then .str s else if k = 3 then .bool (decide (n ≠ 0)) else if k = 4 then .list (valTs l) else if k = 5 then .quot (itemTs l) else if k = 6 then .box n else .none
def valTs : List RV → List Tree
  | [] => []
  | v :: r => valT v :: valTs r
def itemTs : List RV → List Tree
  | [] => []
  | v :: r => (if v.knd = 7 then .call v.txt else valT v) :: itemTs r
end
/-- The item of a tree. -/
def itemT (v : RV) : Tree := if v.knd = 7 then .call v.txt else valT v
theorem itemTs_cons (v : RV) (r : List RV) : itemTs (v :: r) = itemT v :: itemTs r := by simp [itemTs, itemT]
theorem valTs_map : ∀ l : List RV, valTs l = l.map valT
  | [] => by simp [valTs]
  | v :: r => by rw [valTs, valTs_map r]; rfl
theorem itemTs_map : ∀ l : List RV, itemTs l = l.map itemT
  | [] => by simp [itemTs]
  | v :: r => by rw [itemTs_cons, itemTs_map r]; rfl
@[simp] theorem valTs_length (l : List RV) : (valTs l).length = l.length := by simp [valTs_map]
@[simp] theorem itemTs_length (l : List RV) : (itemTs l).length = l.length := by simp [itemTs_map]
mutual
/-- What comes in: numbers that fit, no list of more than 2^47 bytes. -/
def RV.inp : RV → Bool
  | .mk k n s l => (decide (-9223372036854775808 ≤ k) && decide (k ≤ 9223372036854775807)) && (decide (-9223372036854775808 ≤ n) && decide (n ≤ 9223372036854775807)) && decide (s.length ≤ 140737488351232) && decide (l.length ≤ 2513169434916) && inpAll l
def inpAll : List RV → Bool
  | [] => true
  | v :: r => v.inp && inpAll r
end
theorem inpAll_at : ∀ {l : List RV} {i : Nat} {t : RV}, inpAll l = true → l[i]? = some t → t.inp = true
  | [], _, _, _, h => by simp at h
  | x :: l, 0, t, hc, h => by simp at h; subst h; simp [inpAll] at hc; exact hc.1
  | x :: l, i + 1, t, hc, h => by simp [inpAll] at hc; exact inpAll_at hc.2 (by simpa using h)
mutual
theorem inp_clean : ∀ v : RV, v.inp = true → (valT v).clean = true
  | .mk k n s l, h => by
    simp only [RV.inp, Bool.and_eq_true, decide_eq_true_eq] at h
    rw [valT]
    repeat' split
    all_goals first
    | rfl
    | (simp only [Tree.clean, Bool.and_eq_true, decide_eq_true_eq, valTs_length, itemTs_length]; exact ⟨h.1.2, by first | exact inp_cleanV l h.2 | exact inp_cleanI l h.2⟩)
theorem inp_cleanV : ∀ l : List RV, inpAll l = true → cleanAll (valTs l) = true
  | [], _ => by simp [valTs, cleanAll]
  | v :: r, h => by
    simp only [inpAll, Bool.and_eq_true] at h
    simp only [valTs, cleanAll, Bool.and_eq_true]
    exact ⟨inp_clean v h.1, inp_cleanV r h.2⟩
theorem inp_cleanI : ∀ l : List RV, inpAll l = true → cleanAll (itemTs l) = true
  | [], _ => by simp [itemTs, cleanAll]
  | v :: r, h => by
    simp only [inpAll, Bool.and_eq_true] at h
    rw [itemTs]
    simp only [cleanAll, Bool.and_eq_true]
    refine ⟨?_, inp_cleanI r h.2⟩
    split
    · rfl
    · exact inp_clean v h.1
end
theorem inp_cleanT {v : RV} (h : v.inp = true) : (itemT v).clean = true := by
  unfold itemT
  split
  · rfl
  · exact inp_clean v h
mutual
theorem inp_small : ∀ v : RV, v.inp = true → v.small = true
  | .mk k n s l, h => by
    simp only [RV.inp, Bool.and_eq_true, decide_eq_true_eq] at h
    simp only [RV.small, Bool.and_eq_true, decide_eq_true_eq]
    exact ⟨h.1.2, inp_smallA l h.2⟩
theorem inp_smallA : ∀ l : List RV, inpAll l = true → smallAll l = true
  | [], _ => by simp [smallAll]
  | v :: r, h => by
    simp only [inpAll, Bool.and_eq_true] at h
    simp only [smallAll, Bool.and_eq_true]
    exact ⟨inp_small v h.1, inp_smallA r h.2⟩
end

theorem f_Values' (l : List RV) (h : ∀ (i : Nat) v, l[i]? = some v → Av.Fn Tryz.prog 31 [.agg (rvAV v)] (valAV (valT v))) (hl : l.length ≤ 2513169434916) :
    Av.Fn Tryz.prog 60 [.fz (rvsC l) l.length false] (.fz (valAVs (valTs l)) l.length false) := by
  have hcell : ∀ {i : Nat} {v : RV}, l[i]? = some v → (List.drop (mulN i 4) (rvsC l)).take 4 = rvAV v := fun h => by
    have := rvsC_at (r := []) h
    rwa [List.append_nil, ← mulN_eq] at this
  have hmap : ∀ q : List RV, valAVs (valTs q) = q.map fun v => valAV (valT v) := fun q => by rw [valAVs_map, valTs_map, List.map_map]; rfl
  rw [hmap]
  refine ACalls.of_W tb_ok (fn := Tryz.f60) (n := 20) (by kernel_rfl) rfl (by kernel_rfl) rfl rfl (by simp) (go ?_)
  refine VLoop.mk [3, 4] AccI (fun i => [accV i.o i.k, .int .i64 i.k]) (fun i => accS i.o 1 ((List.map fun v => valAV (valT v)) (l.take i.k))) (fun i => i.k ≤ l.length ∧ (i.o = none → i.k = 0)) (fun i => l.length - i.k) ⟨0, none⟩ ?_ ?_
  · exact ⟨⟨by simp, by simp⟩, rfl, .nil⟩
  rintro ⟨k, o⟩ ⟨hk, ho⟩
  dsimp only at hk ho ⊢
  refine go ?_
  refine fork (fun hlt => go ?_) (fun hlt => ?_)
  · have hlt : k < l.length := by omega
    obtain ⟨t, ht⟩ : ∃ t, l[k]? = some t := ⟨l[k], by simp [hlt]⟩
    have hv := h k t ht
    have hacc : (List.map fun v => valAV (valT v)) (l.take (k + 1)) = (List.map fun v => valAV (valT v)) (l.take k) ++ [(fun v => valAV (valT v)) t] := by
      rw [take_succ_at ht]; simp [hmap]
    have hlen : ((List.map fun v => valAV (valT v)) (l.take k)).length = k := by simp; omega
    refine VTake.mk (rvAV t) (hcell ht) (by simp) (go ?_)
    refine Fn.use (hv) (go ?_)
    cases o with
    | none =>
      obtain rfl : k = 0 := ho rfl
      refine go ?_
      refine VOne.mk (by first | exact valAV_one' _ | exact itemAV_one _) (go ?_)
      refine VAll.mk (fun b2 => go ?_)
      refine ⟨⟨1, some b2⟩, ⟨by dsimp only; omega, by simp⟩, by dsimp only; omega, rfl, .cons 0 ?_ .nil⟩
      dsimp only
      rw [hacc]; simp [hmap]
    | some bo =>
      refine go ?_
      refine VOne.mk (by first | exact valAV_one' _ | exact itemAV_one _) (go ?_)
      refine VGd.mk ⟨rfl, by omega, by rw [mulN_eq, hlen]; simp, by simp; omega⟩ (go ?_)
      refine VAll.mk (fun b2 => go ?_)
      refine ⟨⟨k + 1, some b2⟩, ⟨by dsimp only; omega, by simp⟩, by dsimp only; omega, rfl, .cons 0 ?_ .nil⟩
      dsimp only
      rw [hacc, mulN_eq, List.take_of_length_le (by rw [hlen]; simp)]; rfl
  · obtain rfl : k = l.length := by omega
    rw [List.take_length]
    cases o with
    | none =>
      have := ho rfl
      obtain rfl : l = [] := List.length_eq_zero_iff.1 this
      refine go ?_
      refine VRet.mk [] .nil ?_
      exact ⟨by simp [hmap], rfl⟩
    | some bo =>
      refine go ?_
      refine VRet.mk [] .nil ?_
      exact ⟨by simp [mulN_eq, List.take_of_length_le], rfl⟩
theorem f_ItemsOf' (l : List RV) (h : ∀ (i : Nat) v, l[i]? = some v → Av.Fn Tryz.prog 30 [.agg (rvAV v)] (itemAV (itemT v))) (hl : l.length ≤ 2513169434916) :
    Av.Fn Tryz.prog 10 [.fz (rvsC l) l.length false] (.fz (itemAVs (itemTs l)) l.length false) := by
  have hcell : ∀ {i : Nat} {v : RV}, l[i]? = some v → (List.drop (mulN i 4) (rvsC l)).take 4 = rvAV v := fun h => by
    have := rvsC_at (r := []) h
    rwa [List.append_nil, ← mulN_eq] at this
  have hmap : ∀ q : List RV, itemAVs (itemTs q) = q.map fun v => itemAV (itemT v) := fun q => by rw [itemAVs_map, itemTs_map, List.map_map]; rfl
  rw [hmap]
  refine ACalls.of_W tb_ok (fn := Tryz.f10) (n := 20) (by kernel_rfl) rfl (by kernel_rfl) rfl rfl (by simp) (go ?_)
  refine VLoop.mk [3, 4] AccI (fun i => [accV i.o i.k, .int .i64 i.k]) (fun i => accS i.o 1 ((List.map fun v => itemAV (itemT v)) (l.take i.k))) (fun i => i.k ≤ l.length ∧ (i.o = none → i.k = 0)) (fun i => l.length - i.k) ⟨0, none⟩ ?_ ?_
  · exact ⟨⟨by simp, by simp⟩, rfl, .nil⟩
  rintro ⟨k, o⟩ ⟨hk, ho⟩
  dsimp only at hk ho ⊢
  refine go ?_
  refine fork (fun hlt => go ?_) (fun hlt => ?_)
  · have hlt : k < l.length := by omega
    obtain ⟨t, ht⟩ : ∃ t, l[k]? = some t := ⟨l[k], by simp [hlt]⟩
    have hv := h k t ht
    have hacc : (List.map fun v => itemAV (itemT v)) (l.take (k + 1)) = (List.map fun v => itemAV (itemT v)) (l.take k) ++ [(fun v => itemAV (itemT v)) t] := by
      rw [take_succ_at ht]; simp [hmap]
    have hlen : ((List.map fun v => itemAV (itemT v)) (l.take k)).length = k := by simp; omega
    refine VTake.mk (rvAV t) (hcell ht) (by simp) (go ?_)
    refine Fn.use (hv) (go ?_)
    cases o with
    | none =>
      obtain rfl : k = 0 := ho rfl
      refine go ?_
      refine VOne.mk (by first | exact valAV_one' _ | exact itemAV_one _) (go ?_)
      refine VAll.mk (fun b2 => go ?_)
      refine ⟨⟨1, some b2⟩, ⟨by dsimp only; omega, by simp⟩, by dsimp only; omega, rfl, .cons 0 ?_ .nil⟩
      dsimp only
      rw [hacc]; simp [hmap]
    | some bo =>
      refine go ?_
      refine VOne.mk (by first | exact valAV_one' _ | exact itemAV_one _) (go ?_)
      refine VGd.mk ⟨rfl, by omega, by rw [mulN_eq, hlen]; simp, by simp; omega⟩ (go ?_)
      refine VAll.mk (fun b2 => go ?_)
      refine ⟨⟨k + 1, some b2⟩, ⟨by dsimp only; omega, by simp⟩, by dsimp only; omega, rfl, .cons 0 ?_ .nil⟩
      dsimp only
      rw [hacc, mulN_eq, List.take_of_length_le (by rw [hlen]; simp)]; rfl
  · obtain rfl : k = l.length := by omega
    rw [List.take_length]
    cases o with
    | none =>
      have := ho rfl
      obtain rfl : l = [] := List.length_eq_zero_iff.1 this
      refine go ?_
      refine VRet.mk [] .nil ?_
      exact ⟨by simp [hmap], rfl⟩
    | some bo =>
      refine go ?_
      refine VRet.mk [] .nil ?_
      exact ⟨by simp [mulN_eq, List.take_of_length_le], rfl⟩
theorem f_Value' (v : RV) (hv : v.inp = true) (h4 : Av.Fn Tryz.prog 60 [.fz (rvsC (match v with | .mk _ _ _ l => l)) (match v with | .mk _ _ _ l => l).length false] (.fz (valAVs (valTs (match v with | .mk _ _ _ l => l))) (match v with | .mk _ _ _ l => l).length false))
    (h5 : Av.Fn Tryz.prog 10 [.fz (rvsC (match v with | .mk _ _ _ l => l)) (match v with | .mk _ _ _ l => l).length false] (.fz (itemAVs (itemTs (match v with | .mk _ _ _ l => l))) (match v with | .mk _ _ _ l => l).length false)) :
    Av.Fn Tryz.prog 31 [.agg (rvAV v)] (valAV (valT v)) := by
  obtain ⟨k, n, s, l⟩ := v
  dsimp only at h4 h5
  simp only [RV.inp, Bool.and_eq_true, decide_eq_true_eq] at hv
  rw [rvAV, valT]
  refine ACalls.of_W tb_ok (fn := Tryz.f31) (n := 44) (by kernel_rfl) rfl (by kernel_rfl) rfl rfl (by simp) (go ?_)
  refine VAll.mk (fun b => go ?_)
  refine fork (fun k1 => go ?_) (fun k1 => go ?_)
  · rw [if_pos k1]
    refine VRet.mk [] .nil ?_
    exact ⟨by simp [valAV], rfl⟩
  rw [if_neg k1]
  refine fork (fun k2 => go ?_) (fun k2 => go ?_)
  · rw [if_pos k2]
    refine VRet.mk [] .nil ?_
    exact ⟨by simp [valAV], rfl⟩
  rw [if_neg k2]
  refine fork (fun k3 => go ?_) (fun k3 => go ?_)
  · rw [if_pos k3]
    refine VRet.mk [] .nil ?_
    exact ⟨by simp [valAV], rfl⟩
  rw [if_neg k3]
  refine fork (fun k4 => go ?_) (fun k4 => go ?_)
  · rw [if_pos k4]
    refine Fn.use (h4) (go ?_)
    refine VRet.mk [] .nil ?_
    exact ⟨by simp [valAV], rfl⟩
  rw [if_neg k4]
  refine fork (fun k5 => go ?_) (fun k5 => go ?_)
  · rw [if_pos k5]
    refine Fn.use (h5) (go ?_)
    refine VRet.mk [] .nil ?_
    exact ⟨by simp [valAV], rfl⟩
  rw [if_neg k5]
  refine fork (fun k6 => go ?_) (fun k6 => go ?_)
  · rw [if_pos k6]
    refine VRet.mk [] .nil ?_
    exact ⟨by simp [valAV], rfl⟩
  rw [if_neg k6]
  refine VRet.mk [] .nil ?_
  exact ⟨by simp [valAV], rfl⟩
theorem itemAV_push {t : Tree} (h1 : ∀ s, t ≠ .call s) (h2 : t ≠ .none) (h3 : ∀ u v, t ≠ .odd u v) : itemAV t = .iface 138 (.agg [valAV t]) := by
  cases t <;> first | rfl | (exact absurd rfl (h1 _)) | (exact absurd rfl h2) | (exact absurd rfl (h3 _ _))
theorem f_ItemOf' (v : RV) (h : Av.Fn Tryz.prog 31 [.agg (rvAV v)] (valAV (valT v))) : Av.Fn Tryz.prog 30 [.agg (rvAV v)] (itemAV (itemT v)) := by
  obtain ⟨k, n, s, l⟩ := v
  unfold itemT
  rw [rvAV] at h ⊢
  rw [show (RV.mk k n s l).knd = k from rfl, show (RV.mk k n s l).txt = s from rfl]
  refine ACalls.of_W tb_ok (fn := Tryz.f30) (n := 22) (by kernel_rfl) rfl (by kernel_rfl) rfl rfl (by simp) (go ?_)
  refine VAll.mk (fun b => go ?_)
  refine fork (fun k7 => go ?_) (fun k7 => go ?_)
  · rw [if_pos k7]
    refine VRet.mk [] .nil ?_
    exact ⟨rfl, rfl⟩
  rw [if_neg k7]
  refine fork (fun k1 => go ?_) (fun k1 => go ?_)
  · rw [valT, if_neg (by omega), if_neg (by omega), if_neg (by omega), if_neg (by omega), if_neg (by omega), if_neg (by omega)]
    refine VRet.mk [] .nil ?_
    exact ⟨rfl, rfl⟩
  refine fork (fun k6 => go ?_) (fun k6 => go ?_)
  · rw [valT, if_neg (by omega), if_neg (by omega), if_neg (by omega), if_neg (by omega), if_neg (by omega), if_neg (by omega)]
    refine VRet.mk [] .nil ?_
    exact ⟨rfl, rfl⟩
  have hp : itemAV (valT (.mk k n s l)) = .iface 138 (.agg [valAV (valT (.mk k n s l))]) := by
    refine itemAV_push ?_ ?_ ?_
    · intro s; rw [valT]; repeat' split
      all_goals (intro e; cases e)
    · rw [valT]; repeat' split
      all_goals first | (intro e; cases e; done) | (exfalso; omega)
    · intro u v; rw [valT]; repeat' split
      all_goals (intro e; cases e)
  rw [hp]
  have ho := valAV_one' (valT (.mk k n s l))
  generalize valAV (valT (.mk k n s l)) = w at h ho ⊢
  refine Fn.use (h) (go ?_)
  refine VOne.mk ho (go ?_)
  refine VRet.mk [] .nil ?_
  exact ⟨rfl, rfl⟩
theorem f_vals (n : Nat) :
    (∀ v : RV, v.inp = true → v.deep ≤ n → Av.Fn Tryz.prog 31 [.agg (rvAV v)] (valAV (valT v))) ∧
    (∀ l : List RV, inpAll l = true → l.length ≤ 2513169434916 → deepAll l ≤ n → Av.Fn Tryz.prog 60 [.fz (rvsC l) l.length false] (.fz (valAVs (valTs l)) l.length false) ∧
      Av.Fn Tryz.prog 10 [.fz (rvsC l) l.length false] (.fz (itemAVs (itemTs l)) l.length false)) := by
  suffices H : ∀ v : RV, v.inp = true → v.deep ≤ n → Av.Fn Tryz.prog 31 [.agg (rvAV v)] (valAV (valT v)) from
    ⟨H, fun l hi hl hd => ⟨f_Values' l (fun i v hv => H v (inpAll_at hi hv) (Nat.le_trans (deepAll_at hv) hd)) hl,
      f_ItemsOf' l (fun i v hv => f_ItemOf' v (H v (inpAll_at hi hv) (Nat.le_trans (deepAll_at hv) hd))) hl⟩⟩
  induction n with
  | zero =>
    intro v _ hd
    obtain ⟨k, n, s, l⟩ := v
    rw [RV.deep] at hd; omega
  | succ n ih =>
    intro v hi hd
    obtain ⟨k, n', s, l⟩ := v
    rw [RV.deep] at hd
    have hi' := hi
    simp only [RV.inp, Bool.and_eq_true, decide_eq_true_eq] at hi'
    refine f_Value' _ hi ?_ ?_
    · exact f_Values' l (fun i v hv => ih v (inpAll_at hi'.2 hv) (by have := deepAll_at hv; omega)) hi'.1.2
    · exact f_ItemsOf' l (fun i v hv => f_ItemOf' v (ih v (inpAll_at hi'.2 hv) (by have := deepAll_at hv; omega))) hi'.1.2
theorem f_Value {v : RV} (h : v.inp = true) : Av.Fn Tryz.prog 31 [.agg (rvAV v)] (valAV (valT v)) := (f_vals v.deep).1 v h (Nat.le_refl _)
theorem f_ItemOf {v : RV} (h : v.inp = true) : Av.Fn Tryz.prog 30 [.agg (rvAV v)] (itemAV (itemT v)) := f_ItemOf' v (f_Value h)
theorem f_Values {l : List RV} (h : inpAll l = true) (hl : l.length ≤ 2513169434916) : Av.Fn Tryz.prog 60 [.fz (rvsC l) l.length false] (.fz (valAVs (valTs l)) l.length false) := ((f_vals (deepAll l)).2 l h hl (Nat.le_refl _)).1
theorem f_ItemsOf {l : List RV} (h : inpAll l = true) (hl : l.length ≤ 2513169434916) : Av.Fn Tryz.prog 10 [.fz (rvsC l) l.length false] (.fz (itemAVs (itemTs l)) l.length false) := ((f_vals (deepAll l)).2 l h hl (Nat.le_refl _)).2
end Go.Proofs.YtliabblchkgclaaGreatDoor

namespace Go.Proofs.YtliabblchkgclaaGreatDoor
open Go Go.Av
/-- An operation. -/
structure OpT where
  kind : Int
  n : Int
  v : Tree
/-- The code of a word. -/
structure CodeT where
  name : List UInt8
  ops : List OpT
/-- The reference's. -/
structure ROp where
  kind : Int
  n : Int
  v : RV
structure RCode where
  name : List UInt8
  ops : List ROp
def opC (o : OpT) : List AV := [.int .i64 o.kind, .int .i64 o.n, valAV o.v]
def opsC (l : List OpT) : List AV := l.flatMap opC
def codeC (c : CodeT) : List AV := [.str c.name, .fz (opsC c.ops) c.ops.length false]
def codesC (l : List CodeT) : List AV := l.flatMap codeC
def ropC (o : ROp) : List AV := [.int .i64 o.kind, .int .i64 o.n] ++ rvAV o.v
def ropsC (l : List ROp) : List AV := l.flatMap ropC
def rcodeC (c : RCode) : List AV := [.str c.name, .fz (ropsC c.ops) c.ops.length false]
def rcodesC (l : List RCode) : List AV := l.flatMap rcodeC
/-- From the reference's trees, and back. -/
def opT (o : ROp) : OpT := ⟨o.kind, o.n, valT o.v⟩
def codeT (c : RCode) : CodeT := ⟨c.name, c.ops.map opT⟩
def vRV : Tree → RV
  | .none => .mk 0 0 [] []
  | t => valRV t
def opR (o : OpT) : ROp := ⟨o.kind, o.n, vRV o.v⟩
def codeR (c : CodeT) : RCode := ⟨c.name, c.ops.map opR⟩
/-- Is there a value? -/
def isSome (t : Tree) : Bool := match t with
  | .none => false
  | _ => true
/-- The item of an operation, if it has one. -/
def backO (codes : List CodeT) (o : OpT) : Option Tree :=
  if o.kind = 1 ∧ o.n = 0 ∧ isSome o.v = true then some o.v
  else if o.kind = 2 ∧ isSome o.v = false ∧ 0 ≤ o.n ∧ o.n < 52 then some (.call (namesL.getD o.n.toNat []))
  else if o.kind = 3 ∧ isSome o.v = false ∧ 0 ≤ o.n ∧ o.n < codes.length then some (.call ((codes.map (·.name)).getD o.n.toNat []))
  else none
def backL (codes : List CodeT) : List OpT → Option (List Tree)
  | [] => some []
  | o :: r => match backO codes o with
    | none => none
    | some t => (backL codes r).map (t :: ·)
mutual
/-- Does no box stand in it? -/
def bareT : Tree → Bool
  | .box _ => false
  | .list l => bareTs l
  | .quot l => bareTs l
  | _ => true
def bareTs : List Tree → Bool
  | [] => true
  | t :: r => bareT t && bareTs r
end
def backOk (l : List Tree) : Bool := checkR l && bareTs l
def isPrim (s : List UInt8) : Bool := namesL.contains s
/-- Is the code in its place sound? -/
def codeOk (codes : List CodeT) (i : Nat) (c : CodeT) : Bool :=
  (nmR c.name && !isPrim c.name && (i == 0 || !(Op.bytesLess c.name ((codes.map (·.name)).getD (i - 1) []) || decide (c.name = (codes.map (·.name)).getD (i - 1) [])))) && match backL codes c.ops with
    | some l => backOk l
    | none => false
def soundC (codes : List CodeT) : Bool := (List.range codes.length).all fun i => match codes[i]? with
  | some c => codeOk codes i c
  | none => true
end Go.Proofs.YtliabblchkgclaaGreatDoor

namespace Go.Proofs.YtliabblchkgclaaGreatDoor
open Go Go.Av
def tOf (it : Bool) (v : RV) : Tree := if it = true then itemT v else valT v
def tsOf (it : Bool) (l : List RV) : List Tree := if it = true then itemTs l else valTs l
theorem tsOf_cons (it : Bool) (v : RV) (r : List RV) : tsOf it (v :: r) = tOf it v :: tsOf it r := by
  cases it
  · simp [tsOf, tOf, valTs]
  · simp [tsOf, tOf, itemTs_cons]
theorem tsOf_nil (it : Bool) : tsOf it [] = [] := by cases it <;> simp [tsOf, valTs, itemTs]
theorem tOf_call (n : Int) (s : List UInt8) (l : List RV) : tOf true (.mk 7 n s l) = .call s := rfl
theorem tOf_val {it : Bool} {v : RV} (h : v.knd ≠ 7) : tOf it v = valT v := by
  cases it
  · rfl
  · simp [tOf, itemT, h]
mutual
theorem meas_norm : ∀ (it : Bool) (v : RV) (left nest : Int), (it = false → v.kind ≠ 7) → measR v left nest = measR (refOf it (tOf it v)) left nest
  | it, .mk k n s l, left, nest, hk => by
    by_cases h7 : k = 7
    · subst h7
      cases it with
      | false => exact absurd rfl (hk rfl)
      | true =>
        rw [tOf_call, refOf_call, measR, measR]
        simp
    · rw [tOf_val (v := .mk k n s l) h7]
      have hnc : (valT (.mk k n s l)).isCall = false := by
        rw [valT]; repeat' split
        all_goals rfl
      rw [refOf_val hnc, measR, valT]
      by_cases hb : left < 1 ∨ 32 < nest
      · rw [if_pos hb]
        generalize (if k = 1 then Tree.int n else _) = t
        cases t <;> (unfold valRV; rw [measR, if_pos hb])
      rw [if_neg hb]
      by_cases h1 : k = 1
      · subst h1; rw [if_pos rfl, if_pos rfl, valRV, measR, if_neg hb, if_pos rfl]
      rw [if_neg h1, if_neg h1]
      by_cases h2 : k = 2
      · subst h2; rw [if_pos rfl, if_pos rfl, valRV, measR, if_neg hb, if_neg (by omega), if_pos rfl]
      rw [if_neg h2, if_neg h2]
      by_cases h3 : k = 3
      · subst h3; rw [if_pos rfl, if_pos rfl, valRV, measR, if_neg hb, if_neg (by omega), if_neg (by omega), if_pos rfl]
      rw [if_neg h3, if_neg h3]
      by_cases h4 : k = 4
      · subst h4
        rw [if_neg (by omega), if_neg (by omega), if_pos (by omega), if_pos rfl, valRV, measR, if_neg hb, if_neg (by omega), if_neg (by omega), if_neg (by omega), if_neg (by omega), if_neg (by omega), if_pos (by omega)]
        exact meass_norm true false rfl l left nest 1 0
      by_cases h5 : k = 5
      · subst h5
        rw [if_neg (by omega), if_neg (by omega), if_pos (by omega), if_neg (by omega), if_pos rfl, valRV, measR, if_neg hb, if_neg (by omega), if_neg (by omega), if_neg (by omega), if_neg (by omega), if_neg (by omega), if_pos (by omega)]
        exact meass_norm false true rfl l left nest 1 0
      by_cases h6 : k = 6
      · subst h6; rw [if_pos rfl, if_neg (by omega), if_neg (by omega), if_pos rfl, valRV, measR, if_neg hb, if_neg (by omega), if_neg (by omega), if_neg (by omega), if_pos rfl]
      rw [if_neg h6, if_neg h7, if_neg (by omega), if_neg h4, if_neg h5, if_neg h6, valRV, measR, if_neg hb, if_neg (by omega), if_neg (by omega), if_neg (by omega), if_neg (by omega), if_neg (by omega), if_neg (by omega)]
theorem meass_norm : ∀ (vals it : Bool) (_ : it = !vals) (l : List RV) (left nest size depth : Int), measAll vals l left nest size depth = measAll vals (refsOf it (tsOf it l)) left nest size depth
  | vals, it, _, [], left, nest, size, depth => by rw [tsOf_nil, refsOf_nil]
  | vals, it, hv, v :: r, left, nest, size, depth => by
    rw [tsOf_cons, refsOf_cons, measAll, measAll]
    by_cases hc : (vals && decide (v.kind = 7)) = true
    · rw [if_pos hc]
      simp only [Bool.and_eq_true, decide_eq_true_eq] at hc
      obtain ⟨rfl, h7⟩ := hc
      have hit : it = false := hv
      subst hit
      obtain ⟨k, n, s, l⟩ := v
      have h7 : k = 7 := h7
      subst h7
      have e : tOf false (.mk 7 n s l) = .none := by
        show valT _ = _
        rw [valT]; simp
      rw [e]
      rw [if_neg (by simp [refOf, valRV, RV.kind]), if_neg]
      show ¬ (measR (valRV .none) _ _).2.2 = true
      rw [valRV, measR]
      split <;> simp
    · rw [if_neg hc]
      have hk : it = false → v.kind ≠ 7 := by
        intro hi h7
        cases vals with
        | true => exact hc (by rw [h7]; rfl)
        | false => rw [hi] at hv; cases hv
      have hc2 : ¬ (vals && decide ((refOf it (tOf it v)).kind = 7)) = true := by
        intro h
        simp only [Bool.and_eq_true, decide_eq_true_eq] at h
        obtain ⟨rfl, h⟩ := h
        have hit : it = false := hv
        subst hit
        exact valRV_kind _ h
      rw [if_neg hc2, ← meas_norm it v _ _ hk]
      rw [meass_norm vals it hv r]
end
theorem width_le : ∀ l : List UInt8, ((runes l).map (·.2)).sum ≤ 4 * (runes l).length := by
  refine runes_ind (by rw [runes_nil]; exact Nat.le_refl _) fun l hl ih => ?_
  obtain ⟨_, _, h, _⟩ := dec_pos l hl
  rw [runes_cons hl, List.map_cons, List.sum_cons, List.length_cons]
  omega
theorem nm_small {s : List UInt8} (h : nmR s = true) : s.length ≤ 128 := by
  simp only [nmR, nameR, Bool.and_eq_true, decide_eq_true_eq] at h
  have h1 := width_le s
  rw [sum_runes] at h1
  have h2 : (chars s).length = (runes s).length := by simp [chars]
  have := h.1.2.1.1.2
  omega
mutual
theorem fit_of : ∀ (it : Bool) (v : RV) (left nest : Int), v.inp = true → (measT it (tOf it v) left nest).isSome = true → v.fit = true
  | it, .mk k n s l, left, nest, hi, h => by
    simp only [RV.inp, Bool.and_eq_true, decide_eq_true_eq] at hi
    simp only [RV.fit, Bool.and_eq_true, decide_eq_true_eq]
    refine ⟨⟨hi.1.2, fun h7 => ?_⟩, ?_⟩
    · subst h7
      cases it with
      | false =>
        have e : tOf false (.mk 7 n s l) = .none := by
          show valT _ = _
          rw [valT]; simp
        rw [e, measT] at h; cases h
      | true =>
        rw [tOf_call, measT] at h
        split at h
        · rename_i hc
          have := nm_small hc.2.2
          omega
        · cases h
    · by_cases h45 : k = 4 ∨ k = 5
      · rw [if_pos h45]
        have hk7 : (RV.mk k n s l).knd ≠ 7 := by show k ≠ 7; omega
        rw [tOf_val hk7, valT] at h
        rcases h45 with rfl | rfl
        · rw [if_neg (by omega), if_neg (by omega), if_neg (by omega), if_pos rfl, measT] at h
          split at h
          · cases h
          · exact fits_of false l _ _ _ hi.2 h
        · rw [if_neg (by omega), if_neg (by omega), if_neg (by omega), if_neg (by omega), if_pos rfl, measT] at h
          split at h
          · cases h
          · exact fits_of true l _ _ _ hi.2 h
      · rw [if_neg h45]
theorem fits_of : ∀ (it : Bool) (l : List RV) (left nest depth : Int), inpAll l = true → (measTs it (tsOf it l) left nest depth).isSome = true → fitAll l = true
  | it, [], left, nest, depth, hi, h => rfl
  | it, v :: r, left, nest, depth, hi, h => by
    simp only [inpAll, Bool.and_eq_true] at hi
    rw [tsOf_cons, measTs] at h
    simp only [fitAll, Bool.and_eq_true]
    cases hm : measT it (tOf it v) left (nest + 1) with
    | none => rw [hm] at h; cases h
    | some x =>
      rw [hm] at h
      exact ⟨fit_of it v _ _ hi.1 (by rw [hm]; rfl), fits_of it r _ _ _ hi.2 h⟩
end
end Go.Proofs.YtliabblchkgclaaGreatDoor

namespace Go.Proofs.YtliabblchkgclaaGreatDoor
open Go Go.Av
/-- A value or none: no call, nothing of another type. -/
def valish : Tree → Bool
  | .call _ => false
  | .odd _ _ => false
  | _ => true
theorem valT_valish (v : RV) : valish (valT v) = true := by
  obtain ⟨k, n, s, l⟩ := v
  rw [valT]; repeat' split
  all_goals rfl
theorem vRV_knd (t : Tree) (h : valish t = true) : ((vRV t).knd = 0 ↔ isSome t = false) ∧ (vRV t).knd ≠ 7 := by
  cases t <;> first
    | (cases h; done)
    | (simp [vRV, valRV, RV.knd, isSome]; done)
theorem vRV_some {t : Tree} (h : isSome t = true) : vRV t = valRV t := by
  cases t <;> first | rfl | (cases h; done)
def refBackO (names : List (List UInt8)) (o : ROp) : Option RV :=
  if o.kind = 1 ∧ o.n = 0 ∧ o.v.knd ≠ 0 ∧ o.v.knd ≠ 7 then some o.v
  else if o.kind = 2 ∧ o.v.knd = 0 ∧ 0 ≤ o.n ∧ o.n < 52 then some (.mk 7 0 (namesL.getD o.n.toNat []) [])
  else if o.kind = 3 ∧ o.v.knd = 0 ∧ 0 ≤ o.n ∧ o.n < names.length then some (.mk 7 0 (names.getD o.n.toNat []) [])
  else none
def refBackL (names : List (List UInt8)) : List ROp → Option (List RV)
  | [] => some []
  | o :: r => match refBackO names o with
    | none => none
    | some v => (refBackL names r).map (v :: ·)
theorem refBackO_eq (codes : List CodeT) (o : OpT) (h : valish o.v = true) : refBackO (codes.map (·.name)) (opR o) = (backO codes o).map itemRV := by
  obtain ⟨k, n, v⟩ := o
  obtain ⟨h1, h2⟩ := vRV_knd v h
  unfold refBackO backO opR
  dsimp only
  have hs : ((vRV v).knd ≠ 0) ↔ isSome v = true := by
    rw [ne_eq, h1]; cases isSome v <;> simp
  by_cases c1 : k = 1 ∧ n = 0 ∧ isSome v = true
  · rw [if_pos c1, if_pos ⟨c1.1, c1.2.1, hs.2 c1.2.2, h2⟩, vRV_some c1.2.2]
    have hc : v.isCall = false := by cases v <;> first | rfl | (cases h; done)
    rw [Option.map_some, item_val hc]
  rw [if_neg c1, if_neg (fun h => c1 ⟨h.1, h.2.1, hs.1 h.2.2.1⟩)]
  by_cases c2 : k = 2 ∧ isSome v = false ∧ 0 ≤ n ∧ n < 52
  · rw [if_pos c2, if_pos ⟨c2.1, h1.2 c2.2.1, c2.2.2⟩]; rfl
  rw [if_neg c2, if_neg (fun h => c2 ⟨h.1, h1.1 h.2.1, h.2.2⟩)]
  by_cases c3 : k = 3 ∧ isSome v = false ∧ 0 ≤ n ∧ n < codes.length
  · rw [if_pos c3, if_pos ⟨c3.1, h1.2 c3.2.1, by rw [List.length_map]; exact c3.2.2⟩]; rfl
  rw [if_neg c3, if_neg (fun h => c3 ⟨h.1, h1.1 h.2.1, by rw [List.length_map] at h; exact h.2.2⟩)]; rfl
theorem refBackL_eq (codes : List CodeT) : ∀ l : List OpT, (∀ o ∈ l, valish o.v = true) → refBackL (codes.map (·.name)) (l.map opR) = (backL codes l).map itemRVs
  | [], _ => by simp [refBackL, backL, itemRVs]
  | o :: r, h => by
    rw [List.map_cons, refBackL, backL, refBackO_eq codes o (h o (List.mem_cons_self ..)), refBackL_eq codes r (fun x hx => h x (List.mem_cons_of_mem _ hx))]
    cases backO codes o with
    | none => rfl
    | some t =>
      dsimp only [Option.map_some]
      cases backL codes r with
      | none => rfl
      | some l => dsimp only [Option.map_some]; rw [itemRVs_cons]
mutual
theorem bare_eq : ∀ t : Tree, bareR (valRV t) = bareT t
  | .none => by simp [valRV, bareR, bareAll, bareT]
  | .int n => by simp [valRV, bareR, bareAll, bareT]
  | .str s => by simp [valRV, bareR, bareAll, bareT]
  | .bool b => by simp [valRV, bareR, bareAll, bareT]
  | .box n => by simp [valRV, bareR, bareT]
  | .call s => by simp [valRV, bareR, bareAll, bareT]
  | .odd u v => by simp [valRV, bareR, bareAll, bareT]
  | .list l => by rw [valRV, bareR, bareT, bares_eqV l]; simp
  | .quot l => by rw [valRV, bareR, bareT, bares_eqI l]; simp
theorem bares_eqV : ∀ l : List Tree, bareAll (valRVs l) = bareTs l
  | [] => by simp [valRVs, bareAll, bareTs]
  | t :: r => by rw [valRVs, bareAll, bareTs, bare_eq t, bares_eqV r]
theorem bares_eqI : ∀ l : List Tree, bareAll (itemRVs l) = bareTs l
  | [] => by simp [itemRVs, bareAll, bareTs]
  | t :: r => by
    rw [itemRVs_cons, bareAll, bareTs, bares_eqI r]
    congr 1
    cases hc : t.isCall with
    | false => rw [item_val hc]; exact bare_eq t
    | true => cases t <;> first | (cases hc; done) | (simp [itemRV, bareR, bareAll, bareT]; done)
end
def refOk (l : List RV) : Bool := ((measR (.mk 5 0 [] l) 1024 0).2.2 && decide ((RV.mk 5 0 [] l).kind ≠ 7)) && bareR (.mk 5 0 [] l)
theorem refOk_eq (l : List Tree) : refOk (itemRVs l) = backOk l := by
  unfold refOk backOk checkR
  rw [meas_top, show valRV (.quot l) = .mk 5 0 [] (itemRVs l) from by rw [valRV]]
  rw [bareR, bares_eqI l]
  simp [RV.kind]
def ctlL : List (List UInt8) := [[99, 97, 108, 108], [100, 105, 112], [107, 101, 101, 112], [105, 102], [119, 104, 101, 110], [116, 105, 109, 101, 115], [101, 97, 99, 104], [108, 111, 111, 112]]
theorem isPrim_eq (s : List UInt8) : isPrim s = ((primR s).isSome || ctlL.contains s) := by
  have h1 : (namesL.all fun n => (primR n).isSome || ctlL.contains n) = true := by decide +kernel
  have h2 : (ctlL.all fun n => namesL.contains n) = true := by decide +kernel
  have h3 : ∀ x, primR s = some x → s ∈ namesL := by
    intro x hx
    unfold primR at hx
    cases hf : primsL.find? fun p => p.eff.isSome && decide (p.name = s) with
    | none => rw [hf] at hx; cases hx
    | some p =>
      have hm := List.mem_of_find?_eq_some hf
      have he := List.find?_some hf
      simp only [Bool.and_eq_true, decide_eq_true_eq] at he
      exact List.mem_map.2 ⟨p, hm, he.2⟩
  unfold isPrim
  rw [Bool.eq_iff_iff, Bool.or_eq_true, List.contains_iff_mem, List.contains_iff_mem]
  constructor
  · intro h
    have := List.all_eq_true.1 h1 s h
    simpa using this
  · rintro (h | h)
    · cases hp : primR s with
      | none => rw [hp] at h; cases h
      | some x => exact h3 x hp
    · have := List.all_eq_true.1 h2 s h
      simpa using this
/-- The document's: is the code in its place sound? -/
def refCodeOk (names : List (List UInt8)) (i : Nat) (c : RCode) : Bool :=
  (match refBackL names c.ops with
  | some l => refOk l
  | none => false) && ((nmR (names.getD i []) && !((primR (names.getD i [])).isSome || ctlL.contains (names.getD i []))) && (i == 0 || !(Op.bytesLess (names.getD i []) (names.getD (i - 1) []) || decide (names.getD i [] = names.getD (i - 1) []))))
def soundR (l : List RCode) : Bool := (List.range l.length).all fun i => match l[i]? with
  | some c => refCodeOk (l.map (·.name)) i c
  | none => true
theorem sound_eq (codes : List CodeT) (h : ∀ c ∈ codes, ∀ o ∈ c.ops, valish o.v = true) : soundR (codes.map codeR) = soundC codes := by
  unfold soundR soundC
  rw [List.length_map]
  have hn : (codes.map codeR).map (·.name) = codes.map (·.name) := by rw [List.map_map]; rfl
  rw [hn]
  rw [Bool.eq_iff_iff, List.all_eq_true, List.all_eq_true]
  refine forall_congr' fun i => forall_congr' fun hi => ?_
  rw [List.getElem?_map]
  cases hc : codes[i]? with
  | none => exact Iff.rfl
  | some c =>
    dsimp only [Option.map_some]
    have hm := List.mem_of_getElem? hc
    have he : (codes.map (·.name)).getD i [] = c.name := by rw [List.getD_eq_getElem?_getD, List.getElem?_map, hc]; rfl
    unfold refCodeOk codeOk
    rw [he, ← isPrim_eq, show (codeR c).ops = c.ops.map opR from rfl, refBackL_eq codes c.ops (h c hm)]
    cases backL codes c.ops with
    | none => simp
    | some l => dsimp only [Option.map_some]; rw [refOk_eq, Bool.and_comm]
def sameOp (x y : OpT) : Bool := decide (x.kind = y.kind) && (decide (x.n = y.n) && (decide (isSome x.v = isSome y.v) && (!isSome x.v || sameV (valRV x.v) (valRV y.v))))
def sameOpR (x y : ROp) : Bool := decide (x.kind = y.kind) && (decide (x.n = y.n) && sameV x.v y.v)
def all2 {α : Type} (f : α → α → Bool) : List α → List α → Bool
  | [], [] => true
  | a :: r, b :: q => f a b && all2 f r q
  | _, _ => false
theorem all2_map {α β : Type} (f : α → α → Bool) (g : β → β → Bool) (m : β → α) : ∀ (l r : List β), (∀ a ∈ l, ∀ b ∈ r, f (m a) (m b) = g a b) → all2 f (l.map m) (r.map m) = all2 g l r
  | [], [], _ => rfl
  | [], _ :: _, _ => rfl
  | _ :: _, [], _ => rfl
  | a :: l, b :: r, h => by
    rw [List.map_cons, List.map_cons, all2, all2, h a (List.mem_cons_self ..) b (List.mem_cons_self ..), all2_map f g m l r (fun x hx y hy => h x (List.mem_cons_of_mem _ hx) y (List.mem_cons_of_mem _ hy))]
theorem sameOp_eq {x y : OpT} (hx : valish x.v = true) (hy : valish y.v = true) : sameOpR (opR x) (opR y) = sameOp x y := by
  obtain ⟨k, n, v⟩ := x
  obtain ⟨k', n', w⟩ := y
  unfold sameOpR sameOp opR
  dsimp only at hx hy ⊢
  congr 2
  have key : sameV (vRV v) (vRV w) = (decide (isSome v = isSome w) && (!isSome v || sameV (valRV v) (valRV w))) := by
    cases hv : isSome v with
    | true =>
      rw [vRV_some hv]
      cases hw : isSome w with
      | true => rw [vRV_some hw]; simp
      | false =>
        have : w = .none := by cases w <;> first | rfl | (cases hw; done)
        subst this
        cases v <;> first
          | (cases hx; done)
          | (cases hv; done)
          | simp [vRV, valRV, sameV]
    | false =>
      have : v = .none := by cases v <;> first | rfl | (cases hv; done)
      subst this
      cases hw : isSome w with
      | true =>
        rw [vRV_some hw]
        cases w <;> first
          | (cases hy; done)
          | (cases hw; done)
          | simp [vRV, valRV, sameV]
      | false =>
        have : w = .none := by cases w <;> first | rfl | (cases hw; done)
        subst this
        simp [vRV, sameV, sameVs, leafSame]
  exact key
def sameCode (a b : CodeT) : Bool := decide (a.name = b.name) && all2 sameOp a.ops b.ops
def sameCodeR (a b : RCode) : Bool := decide (a.name = b.name) && all2 sameOpR a.ops b.ops
theorem sameCodes_eq {a b : List CodeT} (ha : ∀ c ∈ a, ∀ o ∈ c.ops, valish o.v = true) (hb : ∀ c ∈ b, ∀ o ∈ c.ops, valish o.v = true) : all2 sameCodeR (a.map codeR) (b.map codeR) = all2 sameCode a b := by
  refine all2_map _ _ _ a b fun x hx y hy => ?_
  unfold sameCodeR sameCode codeR
  dsimp only
  rw [all2_map sameOpR sameOp opR x.ops y.ops fun o ho p hp => sameOp_eq (ha x hx o ho) (hb y hy p hp)]
end Go.Proofs.YtliabblchkgclaaGreatDoor
