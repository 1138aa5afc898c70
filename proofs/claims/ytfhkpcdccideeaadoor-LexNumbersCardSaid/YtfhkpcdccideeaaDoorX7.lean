/- Lex: Name. Lex: awake. Lex: decimal. Lex: numbers in each script: the plain law. -/
import Derived.Test.YtfhkpcdccideeaaDoorX6
set_option linter.all false
namespace Go.Proofs.YtfhkpcdccideeaaDoor
open Go Go.Av
/-- May a character stand in a name? -/
def okCh (first : Bool) (r : Nat) : Bool := !(decide (r = 65533) || blankB r || decide (r < 32) || decide (r = 127) || (first && decide (r = 34)))
def okAll : Bool → List Nat → Bool
  | _, [] => true
  | f, r :: rs => okCh f r && okAll false rs
def chars (l : List UInt8) : List Nat := (runes l).map (·.1)
def nameR (l : List UInt8) : Bool := okAll true (chars l) && (decide (1 ≤ (chars l).length) && decide ((chars l).length ≤ 32) && decide (l ≠ [33]) && !(digitsR l).2.1)
theorem chars_cons {l : List UInt8} (h : l ≠ []) : chars l = (dec l).1 :: chars (l.drop (dec l).2) := by simp [chars, runes_cons h]
theorem nameR_bad {l : List UInt8} (h : okAll true (chars l) = false) : nameR l = false := by simp [nameR, h]
theorem f11_of (l : List UInt8) (hlen : l.length ≤ 4611686018427387904) : Av.Fn Tryd.prog 11 [.str l] (.bool (nameR l)) := by
  refine ACalls.of_W tb_ok (fn := Tryd.f11) (n := 59) (by kernel_rfl) rfl (by kernel_rfl) rfl rfl (by simp) ?_
  (conv => whnf)
  repeat ((first | refine VGd.mk rfl ?_ | refine VGo.at _ rfl ?_ | refine VGo.out rfl ?_ | refine VOne.mk rfl ?_ | refine VIf.tt ?_ | refine VIf.ff ?_ | refine VFz.nil ?_ | refine VFz.nils ?_ | refine VFz.full ?_ | refine VFz.own 0 _ _ _ rfl (by simp) ?_ | refine VFz.own 1 _ _ _ rfl (by simp) ?_ | refine VFz.keep ?_ | refine VObj.mk 0 _ rfl ?_ | refine VObj.mk 1 _ rfl ?_ | refine VObj.mk 2 _ rfl ?_ | refine VObj.mk 3 _ rfl ?_ | refine VTake.mk _ rfl rfl ?_ | (apply VInt.to; focus (simp only [Int.reduceAdd, Int.reduceSub, Int.reduceMul]; rfl); focus decide; focus decide) | refine VInt.fit (by omega) (by omega) ?_ | refine VGd.mk (by omega) ?_ | refine VIdx.at _ rfl (by first | omega | decide | simp) ?_ | (apply VQ.mk; focus ((conv => whnf); (repeat ((first | refine VGd.mk rfl ?_ | refine VGo.at _ rfl ?_ | refine VGo.out rfl ?_ | refine VOne.mk rfl ?_ | refine VIf.tt ?_ | refine VIf.ff ?_ | refine VFz.nil ?_ | refine VFz.nils ?_ | refine VFz.full ?_ | refine VFz.own 0 _ _ _ rfl (by simp) ?_ | refine VFz.own 1 _ _ _ rfl (by simp) ?_ | refine VFz.keep ?_ | refine VObj.mk 0 _ rfl ?_ | refine VObj.mk 1 _ rfl ?_ | refine VObj.mk 2 _ rfl ?_ | refine VObj.mk 3 _ rfl ?_ | refine VTake.mk _ rfl rfl ?_ | (apply VInt.to; focus (simp only [Int.reduceAdd, Int.reduceSub, Int.reduceMul]; rfl); focus decide; focus decide) | refine VInt.fit (by omega) (by omega) ?_ | refine VGd.mk (by omega) ?_ | refine VIdx.at _ rfl (by first | omega | decide | simp) ?_); (conv => whnf))); exact ⟨rfl, rfl⟩))); (conv => whnf))
  refine VAll.mk (fun b => ?_)
  (conv => whnf)
  repeat ((first | refine VGd.mk rfl ?_ | refine VGo.at _ rfl ?_ | refine VGo.out rfl ?_ | refine VOne.mk rfl ?_ | refine VIf.tt ?_ | refine VIf.ff ?_ | refine VFz.nil ?_ | refine VFz.nils ?_ | refine VFz.full ?_ | refine VFz.own 0 _ _ _ rfl (by simp) ?_ | refine VFz.own 1 _ _ _ rfl (by simp) ?_ | refine VFz.keep ?_ | refine VObj.mk 0 _ rfl ?_ | refine VObj.mk 1 _ rfl ?_ | refine VObj.mk 2 _ rfl ?_ | refine VObj.mk 3 _ rfl ?_ | refine VTake.mk _ rfl rfl ?_ | (apply VInt.to; focus (simp only [Int.reduceAdd, Int.reduceSub, Int.reduceMul]; rfl); focus decide; focus decide) | refine VInt.fit (by omega) (by omega) ?_ | refine VGd.mk (by omega) ?_ | refine VIdx.at _ rfl (by first | omega | decide | simp) ?_ | (apply VQ.mk; focus ((conv => whnf); (repeat ((first | refine VGd.mk rfl ?_ | refine VGo.at _ rfl ?_ | refine VGo.out rfl ?_ | refine VOne.mk rfl ?_ | refine VIf.tt ?_ | refine VIf.ff ?_ | refine VFz.nil ?_ | refine VFz.nils ?_ | refine VFz.full ?_ | refine VFz.own 0 _ _ _ rfl (by simp) ?_ | refine VFz.own 1 _ _ _ rfl (by simp) ?_ | refine VFz.keep ?_ | refine VObj.mk 0 _ rfl ?_ | refine VObj.mk 1 _ rfl ?_ | refine VObj.mk 2 _ rfl ?_ | refine VObj.mk 3 _ rfl ?_ | refine VTake.mk _ rfl rfl ?_ | (apply VInt.to; focus (simp only [Int.reduceAdd, Int.reduceSub, Int.reduceMul]; rfl); focus decide; focus decide) | refine VInt.fit (by omega) (by omega) ?_ | refine VGd.mk (by omega) ?_ | refine VIdx.at _ rfl (by first | omega | decide | simp) ?_); (conv => whnf))); exact ⟨rfl, rfl⟩))); (conv => whnf))
  refine VLoop.mk [3] (Nat × Nat) (fun i => [.int .i64 i.2]) (fun i => [(b, .siter l i.1)])
    (fun i => i.1 ≤ l.length ∧ i.2 ≤ i.1 ∧ (okAll (decide (i.1 = 0)) (chars (l.drop i.1)) = okAll true (chars l) ∧ i.2 + (chars (l.drop i.1)).length = (chars l).length)) (fun i => l.length - i.1) ⟨0, 0⟩ ?_ ?_
  · exact ⟨⟨by simp, by simp, by simp, by simp⟩, rfl, .cons 0 rfl .nil⟩
  rintro ⟨p, n⟩ ⟨hp, hn, hI⟩
  dsimp only at hp hn hI ⊢
  (conv => whnf)
  repeat ((first | refine VGd.mk rfl ?_ | refine VGo.at _ rfl ?_ | refine VGo.out rfl ?_ | refine VOne.mk rfl ?_ | refine VIf.tt ?_ | refine VIf.ff ?_ | refine VFz.nil ?_ | refine VFz.nils ?_ | refine VFz.full ?_ | refine VFz.own 0 _ _ _ rfl (by simp) ?_ | refine VFz.own 1 _ _ _ rfl (by simp) ?_ | refine VFz.keep ?_ | refine VObj.mk 0 _ rfl ?_ | refine VObj.mk 1 _ rfl ?_ | refine VObj.mk 2 _ rfl ?_ | refine VObj.mk 3 _ rfl ?_ | refine VTake.mk _ rfl rfl ?_ | (apply VInt.to; focus (simp only [Int.reduceAdd, Int.reduceSub, Int.reduceMul]; rfl); focus decide; focus decide) | refine VInt.fit (by omega) (by omega) ?_ | refine VGd.mk (by omega) ?_ | refine VIdx.at _ rfl (by first | omega | decide | simp) ?_ | (apply VQ.mk; focus ((conv => whnf); (repeat ((first | refine VGd.mk rfl ?_ | refine VGo.at _ rfl ?_ | refine VGo.out rfl ?_ | refine VOne.mk rfl ?_ | refine VIf.tt ?_ | refine VIf.ff ?_ | refine VFz.nil ?_ | refine VFz.nils ?_ | refine VFz.full ?_ | refine VFz.own 0 _ _ _ rfl (by simp) ?_ | refine VFz.own 1 _ _ _ rfl (by simp) ?_ | refine VFz.keep ?_ | refine VObj.mk 0 _ rfl ?_ | refine VObj.mk 1 _ rfl ?_ | refine VObj.mk 2 _ rfl ?_ | refine VObj.mk 3 _ rfl ?_ | refine VTake.mk _ rfl rfl ?_ | (apply VInt.to; focus (simp only [Int.reduceAdd, Int.reduceSub, Int.reduceMul]; rfl); focus decide; focus decide) | refine VInt.fit (by omega) (by omega) ?_ | refine VGd.mk (by omega) ?_ | refine VIdx.at _ rfl (by first | omega | decide | simp) ?_); (conv => whnf))); exact ⟨rfl, rfl⟩))); (conv => whnf))
  (first | refine VIf.dec (fun hlt => ?_) (fun hlt => ?_) | refine VIf.ndec (fun hlt => ?_) (fun hlt => ?_) | refine VIf.mk (fun hlt => ?_) (fun hlt => ?_)) <;> ((conv => whnf); repeat ((first | refine VGd.mk rfl ?_ | refine VGo.at _ rfl ?_ | refine VGo.out rfl ?_ | refine VOne.mk rfl ?_ | refine VIf.tt ?_ | refine VIf.ff ?_ | refine VFz.nil ?_ | refine VFz.nils ?_ | refine VFz.full ?_ | refine VFz.own 0 _ _ _ rfl (by simp) ?_ | refine VFz.own 1 _ _ _ rfl (by simp) ?_ | refine VFz.keep ?_ | refine VObj.mk 0 _ rfl ?_ | refine VObj.mk 1 _ rfl ?_ | refine VObj.mk 2 _ rfl ?_ | refine VObj.mk 3 _ rfl ?_ | refine VTake.mk _ rfl rfl ?_ | (apply VInt.to; focus (simp only [Int.reduceAdd, Int.reduceSub, Int.reduceMul]; rfl); focus decide; focus decide) | refine VInt.fit (by omega) (by omega) ?_ | refine VGd.mk (by omega) ?_ | refine VIdx.at _ rfl (by first | omega | decide | simp) ?_ | (apply VQ.mk; focus ((conv => whnf); (repeat ((first | refine VGd.mk rfl ?_ | refine VGo.at _ rfl ?_ | refine VGo.out rfl ?_ | refine VOne.mk rfl ?_ | refine VIf.tt ?_ | refine VIf.ff ?_ | refine VFz.nil ?_ | refine VFz.nils ?_ | refine VFz.full ?_ | refine VFz.own 0 _ _ _ rfl (by simp) ?_ | refine VFz.own 1 _ _ _ rfl (by simp) ?_ | refine VFz.keep ?_ | refine VObj.mk 0 _ rfl ?_ | refine VObj.mk 1 _ rfl ?_ | refine VObj.mk 2 _ rfl ?_ | refine VObj.mk 3 _ rfl ?_ | refine VTake.mk _ rfl rfl ?_ | (apply VInt.to; focus (simp only [Int.reduceAdd, Int.reduceSub, Int.reduceMul]; rfl); focus decide; focus decide) | refine VInt.fit (by omega) (by omega) ?_ | refine VGd.mk (by omega) ?_ | refine VIdx.at _ rfl (by first | omega | decide | simp) ?_); (conv => whnf))); exact ⟨rfl, rfl⟩))); (conv => whnf)))
  · have hne' : l.drop p ≠ [] := by simp; omega
    have hc := dec_pos _ hne'
    rw [chars_cons hne', List.length_drop] at *
    rw [← dec_at] at hc hI
    generalize hdc : Utf8.decode ⟨⟨l⟩⟩ p = c
    rw [hdc] at hc hI
    rw [List.drop_drop] at hI
    obtain ⟨r, k⟩ := c
    dsimp only at hc hI ⊢
    (first | refine VIf.dec (fun a1 => ?_) (fun a1 => ?_) | refine VIf.ndec (fun a1 => ?_) (fun a1 => ?_) | refine VIf.mk (fun a1 => ?_) (fun a1 => ?_)) <;> ((conv => whnf); repeat ((first | refine VGd.mk rfl ?_ | refine VGo.at _ rfl ?_ | refine VGo.out rfl ?_ | refine VOne.mk rfl ?_ | refine VIf.tt ?_ | refine VIf.ff ?_ | refine VFz.nil ?_ | refine VFz.nils ?_ | refine VFz.full ?_ | refine VFz.own 0 _ _ _ rfl (by simp) ?_ | refine VFz.own 1 _ _ _ rfl (by simp) ?_ | refine VFz.keep ?_ | refine VObj.mk 0 _ rfl ?_ | refine VObj.mk 1 _ rfl ?_ | refine VObj.mk 2 _ rfl ?_ | refine VObj.mk 3 _ rfl ?_ | refine VTake.mk _ rfl rfl ?_ | (apply VInt.to; focus (simp only [Int.reduceAdd, Int.reduceSub, Int.reduceMul]; rfl); focus decide; focus decide) | refine VInt.fit (by omega) (by omega) ?_ | refine VGd.mk (by omega) ?_ | refine VIdx.at _ rfl (by first | omega | decide | simp) ?_ | (apply VQ.mk; focus ((conv => whnf); (repeat ((first | refine VGd.mk rfl ?_ | refine VGo.at _ rfl ?_ | refine VGo.out rfl ?_ | refine VOne.mk rfl ?_ | refine VIf.tt ?_ | refine VIf.ff ?_ | refine VFz.nil ?_ | refine VFz.nils ?_ | refine VFz.full ?_ | refine VFz.own 0 _ _ _ rfl (by simp) ?_ | refine VFz.own 1 _ _ _ rfl (by simp) ?_ | refine VFz.keep ?_ | refine VObj.mk 0 _ rfl ?_ | refine VObj.mk 1 _ rfl ?_ | refine VObj.mk 2 _ rfl ?_ | refine VObj.mk 3 _ rfl ?_ | refine VTake.mk _ rfl rfl ?_ | (apply VInt.to; focus (simp only [Int.reduceAdd, Int.reduceSub, Int.reduceMul]; rfl); focus decide; focus decide) | refine VInt.fit (by omega) (by omega) ?_ | refine VGd.mk (by omega) ?_ | refine VIdx.at _ rfl (by first | omega | decide | simp) ?_); (conv => whnf))); exact ⟨rfl, rfl⟩))); (conv => whnf)))
    · have a1 : r = 65533 := by omega
      refine VRet.mk [] .nil ?_
      rw [nameR_bad (by rw [← hI.1]; simp [okAll, okCh, a1])]
      simp
    · have hb := f18_of r (by omega)
      cases a2 : blankB r with
      | true =>
        rw [a2] at hb
        refine Fn.use (hb) ?_
        (conv => whnf)
        repeat ((first | refine VGd.mk rfl ?_ | refine VGo.at _ rfl ?_ | refine VGo.out rfl ?_ | refine VOne.mk rfl ?_ | refine VIf.tt ?_ | refine VIf.ff ?_ | refine VFz.nil ?_ | refine VFz.nils ?_ | refine VFz.full ?_ | refine VFz.own 0 _ _ _ rfl (by simp) ?_ | refine VFz.own 1 _ _ _ rfl (by simp) ?_ | refine VFz.keep ?_ | refine VObj.mk 0 _ rfl ?_ | refine VObj.mk 1 _ rfl ?_ | refine VObj.mk 2 _ rfl ?_ | refine VObj.mk 3 _ rfl ?_ | refine VTake.mk _ rfl rfl ?_ | (apply VInt.to; focus (simp only [Int.reduceAdd, Int.reduceSub, Int.reduceMul]; rfl); focus decide; focus decide) | refine VInt.fit (by omega) (by omega) ?_ | refine VGd.mk (by omega) ?_ | refine VIdx.at _ rfl (by first | omega | decide | simp) ?_ | (apply VQ.mk; focus ((conv => whnf); (repeat ((first | refine VGd.mk rfl ?_ | refine VGo.at _ rfl ?_ | refine VGo.out rfl ?_ | refine VOne.mk rfl ?_ | refine VIf.tt ?_ | refine VIf.ff ?_ | refine VFz.nil ?_ | refine VFz.nils ?_ | refine VFz.full ?_ | refine VFz.own 0 _ _ _ rfl (by simp) ?_ | refine VFz.own 1 _ _ _ rfl (by simp) ?_ | refine VFz.keep ?_ | refine VObj.mk 0 _ rfl ?_ | refine VObj.mk 1 _ rfl ?_ | refine VObj.mk 2 _ rfl ?_ | refine VObj.mk 3 _ rfl ?_ | refine VTake.mk _ rfl rfl ?_ | (apply VInt.to; focus (simp only [Int.reduceAdd, Int.reduceSub, Int.reduceMul]; rfl); focus decide; focus decide) | refine VInt.fit (by omega) (by omega) ?_ | refine VGd.mk (by omega) ?_ | refine VIdx.at _ rfl (by first | omega | decide | simp) ?_); (conv => whnf))); exact ⟨rfl, rfl⟩))); (conv => whnf))
        refine VRet.mk [] .nil ?_
        rw [nameR_bad (by rw [← hI.1]; simp [okAll, okCh, a2])]
        simp
      | false =>
        rw [a2] at hb
        refine Fn.use (hb) ?_
        (conv => whnf)
        repeat ((first | refine VGd.mk rfl ?_ | refine VGo.at _ rfl ?_ | refine VGo.out rfl ?_ | refine VOne.mk rfl ?_ | refine VIf.tt ?_ | refine VIf.ff ?_ | refine VFz.nil ?_ | refine VFz.nils ?_ | refine VFz.full ?_ | refine VFz.own 0 _ _ _ rfl (by simp) ?_ | refine VFz.own 1 _ _ _ rfl (by simp) ?_ | refine VFz.keep ?_ | refine VObj.mk 0 _ rfl ?_ | refine VObj.mk 1 _ rfl ?_ | refine VObj.mk 2 _ rfl ?_ | refine VObj.mk 3 _ rfl ?_ | refine VTake.mk _ rfl rfl ?_ | (apply VInt.to; focus (simp only [Int.reduceAdd, Int.reduceSub, Int.reduceMul]; rfl); focus decide; focus decide) | refine VInt.fit (by omega) (by omega) ?_ | refine VGd.mk (by omega) ?_ | refine VIdx.at _ rfl (by first | omega | decide | simp) ?_ | (apply VQ.mk; focus ((conv => whnf); (repeat ((first | refine VGd.mk rfl ?_ | refine VGo.at _ rfl ?_ | refine VGo.out rfl ?_ | refine VOne.mk rfl ?_ | refine VIf.tt ?_ | refine VIf.ff ?_ | refine VFz.nil ?_ | refine VFz.nils ?_ | refine VFz.full ?_ | refine VFz.own 0 _ _ _ rfl (by simp) ?_ | refine VFz.own 1 _ _ _ rfl (by simp) ?_ | refine VFz.keep ?_ | refine VObj.mk 0 _ rfl ?_ | refine VObj.mk 1 _ rfl ?_ | refine VObj.mk 2 _ rfl ?_ | refine VObj.mk 3 _ rfl ?_ | refine VTake.mk _ rfl rfl ?_ | (apply VInt.to; focus (simp only [Int.reduceAdd, Int.reduceSub, Int.reduceMul]; rfl); focus decide; focus decide) | refine VInt.fit (by omega) (by omega) ?_ | refine VGd.mk (by omega) ?_ | refine VIdx.at _ rfl (by first | omega | decide | simp) ?_); (conv => whnf))); exact ⟨rfl, rfl⟩))); (conv => whnf))
        (first | refine VIf.dec (fun a3 => ?_) (fun a3 => ?_) | refine VIf.ndec (fun a3 => ?_) (fun a3 => ?_) | refine VIf.mk (fun a3 => ?_) (fun a3 => ?_)) <;> ((conv => whnf); repeat ((first | refine VGd.mk rfl ?_ | refine VGo.at _ rfl ?_ | refine VGo.out rfl ?_ | refine VOne.mk rfl ?_ | refine VIf.tt ?_ | refine VIf.ff ?_ | refine VFz.nil ?_ | refine VFz.nils ?_ | refine VFz.full ?_ | refine VFz.own 0 _ _ _ rfl (by simp) ?_ | refine VFz.own 1 _ _ _ rfl (by simp) ?_ | refine VFz.keep ?_ | refine VObj.mk 0 _ rfl ?_ | refine VObj.mk 1 _ rfl ?_ | refine VObj.mk 2 _ rfl ?_ | refine VObj.mk 3 _ rfl ?_ | refine VTake.mk _ rfl rfl ?_ | (apply VInt.to; focus (simp only [Int.reduceAdd, Int.reduceSub, Int.reduceMul]; rfl); focus decide; focus decide) | refine VInt.fit (by omega) (by omega) ?_ | refine VGd.mk (by omega) ?_ | refine VIdx.at _ rfl (by first | omega | decide | simp) ?_ | (apply VQ.mk; focus ((conv => whnf); (repeat ((first | refine VGd.mk rfl ?_ | refine VGo.at _ rfl ?_ | refine VGo.out rfl ?_ | refine VOne.mk rfl ?_ | refine VIf.tt ?_ | refine VIf.ff ?_ | refine VFz.nil ?_ | refine VFz.nils ?_ | refine VFz.full ?_ | refine VFz.own 0 _ _ _ rfl (by simp) ?_ | refine VFz.own 1 _ _ _ rfl (by simp) ?_ | refine VFz.keep ?_ | refine VObj.mk 0 _ rfl ?_ | refine VObj.mk 1 _ rfl ?_ | refine VObj.mk 2 _ rfl ?_ | refine VObj.mk 3 _ rfl ?_ | refine VTake.mk _ rfl rfl ?_ | (apply VInt.to; focus (simp only [Int.reduceAdd, Int.reduceSub, Int.reduceMul]; rfl); focus decide; focus decide) | refine VInt.fit (by omega) (by omega) ?_ | refine VGd.mk (by omega) ?_ | refine VIdx.at _ rfl (by first | omega | decide | simp) ?_); (conv => whnf))); exact ⟨rfl, rfl⟩))); (conv => whnf)))
        · have a3 : r < 32 := by omega
          refine VRet.mk [] .nil ?_
          rw [nameR_bad (by rw [← hI.1]; simp [okAll, okCh, a3])]
          simp
        · have a3 : ¬ r < 32 := by omega
          (first | refine VIf.dec (fun a4 => ?_) (fun a4 => ?_) | refine VIf.ndec (fun a4 => ?_) (fun a4 => ?_) | refine VIf.mk (fun a4 => ?_) (fun a4 => ?_)) <;> ((conv => whnf); repeat ((first | refine VGd.mk rfl ?_ | refine VGo.at _ rfl ?_ | refine VGo.out rfl ?_ | refine VOne.mk rfl ?_ | refine VIf.tt ?_ | refine VIf.ff ?_ | refine VFz.nil ?_ | refine VFz.nils ?_ | refine VFz.full ?_ | refine VFz.own 0 _ _ _ rfl (by simp) ?_ | refine VFz.own 1 _ _ _ rfl (by simp) ?_ | refine VFz.keep ?_ | refine VObj.mk 0 _ rfl ?_ | refine VObj.mk 1 _ rfl ?_ | refine VObj.mk 2 _ rfl ?_ | refine VObj.mk 3 _ rfl ?_ | refine VTake.mk _ rfl rfl ?_ | (apply VInt.to; focus (simp only [Int.reduceAdd, Int.reduceSub, Int.reduceMul]; rfl); focus decide; focus decide) | refine VInt.fit (by omega) (by omega) ?_ | refine VGd.mk (by omega) ?_ | refine VIdx.at _ rfl (by first | omega | decide | simp) ?_ | (apply VQ.mk; focus ((conv => whnf); (repeat ((first | refine VGd.mk rfl ?_ | refine VGo.at _ rfl ?_ | refine VGo.out rfl ?_ | refine VOne.mk rfl ?_ | refine VIf.tt ?_ | refine VIf.ff ?_ | refine VFz.nil ?_ | refine VFz.nils ?_ | refine VFz.full ?_ | refine VFz.own 0 _ _ _ rfl (by simp) ?_ | refine VFz.own 1 _ _ _ rfl (by simp) ?_ | refine VFz.keep ?_ | refine VObj.mk 0 _ rfl ?_ | refine VObj.mk 1 _ rfl ?_ | refine VObj.mk 2 _ rfl ?_ | refine VObj.mk 3 _ rfl ?_ | refine VTake.mk _ rfl rfl ?_ | (apply VInt.to; focus (simp only [Int.reduceAdd, Int.reduceSub, Int.reduceMul]; rfl); focus decide; focus decide) | refine VInt.fit (by omega) (by omega) ?_ | refine VGd.mk (by omega) ?_ | refine VIdx.at _ rfl (by first | omega | decide | simp) ?_); (conv => whnf))); exact ⟨rfl, rfl⟩))); (conv => whnf)))
          · have a4 : r = 127 := by omega
            refine VRet.mk [] .nil ?_
            rw [nameR_bad (by rw [← hI.1]; simp [okAll, okCh, a4])]
            simp
          · have a4 : ¬ r = 127 := by omega
            have a1 : ¬ r = 65533 := by omega
            (first | refine VIf.dec (fun a5 => ?_) (fun a5 => ?_) | refine VIf.ndec (fun a5 => ?_) (fun a5 => ?_) | refine VIf.mk (fun a5 => ?_) (fun a5 => ?_)) <;> ((conv => whnf); repeat ((first | refine VGd.mk rfl ?_ | refine VGo.at _ rfl ?_ | refine VGo.out rfl ?_ | refine VOne.mk rfl ?_ | refine VIf.tt ?_ | refine VIf.ff ?_ | refine VFz.nil ?_ | refine VFz.nils ?_ | refine VFz.full ?_ | refine VFz.own 0 _ _ _ rfl (by simp) ?_ | refine VFz.own 1 _ _ _ rfl (by simp) ?_ | refine VFz.keep ?_ | refine VObj.mk 0 _ rfl ?_ | refine VObj.mk 1 _ rfl ?_ | refine VObj.mk 2 _ rfl ?_ | refine VObj.mk 3 _ rfl ?_ | refine VTake.mk _ rfl rfl ?_ | (apply VInt.to; focus (simp only [Int.reduceAdd, Int.reduceSub, Int.reduceMul]; rfl); focus decide; focus decide) | refine VInt.fit (by omega) (by omega) ?_ | refine VGd.mk (by omega) ?_ | refine VIdx.at _ rfl (by first | omega | decide | simp) ?_ | (apply VQ.mk; focus ((conv => whnf); (repeat ((first | refine VGd.mk rfl ?_ | refine VGo.at _ rfl ?_ | refine VGo.out rfl ?_ | refine VOne.mk rfl ?_ | refine VIf.tt ?_ | refine VIf.ff ?_ | refine VFz.nil ?_ | refine VFz.nils ?_ | refine VFz.full ?_ | refine VFz.own 0 _ _ _ rfl (by simp) ?_ | refine VFz.own 1 _ _ _ rfl (by simp) ?_ | refine VFz.keep ?_ | refine VObj.mk 0 _ rfl ?_ | refine VObj.mk 1 _ rfl ?_ | refine VObj.mk 2 _ rfl ?_ | refine VObj.mk 3 _ rfl ?_ | refine VTake.mk _ rfl rfl ?_ | (apply VInt.to; focus (simp only [Int.reduceAdd, Int.reduceSub, Int.reduceMul]; rfl); focus decide; focus decide) | refine VInt.fit (by omega) (by omega) ?_ | refine VGd.mk (by omega) ?_ | refine VIdx.at _ rfl (by first | omega | decide | simp) ?_); (conv => whnf))); exact ⟨rfl, rfl⟩))); (conv => whnf)))
            · have a5 : p = 0 := by omega
              (first | refine VIf.dec (fun a6 => ?_) (fun a6 => ?_) | refine VIf.ndec (fun a6 => ?_) (fun a6 => ?_) | refine VIf.mk (fun a6 => ?_) (fun a6 => ?_)) <;> ((conv => whnf); repeat ((first | refine VGd.mk rfl ?_ | refine VGo.at _ rfl ?_ | refine VGo.out rfl ?_ | refine VOne.mk rfl ?_ | refine VIf.tt ?_ | refine VIf.ff ?_ | refine VFz.nil ?_ | refine VFz.nils ?_ | refine VFz.full ?_ | refine VFz.own 0 _ _ _ rfl (by simp) ?_ | refine VFz.own 1 _ _ _ rfl (by simp) ?_ | refine VFz.keep ?_ | refine VObj.mk 0 _ rfl ?_ | refine VObj.mk 1 _ rfl ?_ | refine VObj.mk 2 _ rfl ?_ | refine VObj.mk 3 _ rfl ?_ | refine VTake.mk _ rfl rfl ?_ | (apply VInt.to; focus (simp only [Int.reduceAdd, Int.reduceSub, Int.reduceMul]; rfl); focus decide; focus decide) | refine VInt.fit (by omega) (by omega) ?_ | refine VGd.mk (by omega) ?_ | refine VIdx.at _ rfl (by first | omega | decide | simp) ?_ | (apply VQ.mk; focus ((conv => whnf); (repeat ((first | refine VGd.mk rfl ?_ | refine VGo.at _ rfl ?_ | refine VGo.out rfl ?_ | refine VOne.mk rfl ?_ | refine VIf.tt ?_ | refine VIf.ff ?_ | refine VFz.nil ?_ | refine VFz.nils ?_ | refine VFz.full ?_ | refine VFz.own 0 _ _ _ rfl (by simp) ?_ | refine VFz.own 1 _ _ _ rfl (by simp) ?_ | refine VFz.keep ?_ | refine VObj.mk 0 _ rfl ?_ | refine VObj.mk 1 _ rfl ?_ | refine VObj.mk 2 _ rfl ?_ | refine VObj.mk 3 _ rfl ?_ | refine VTake.mk _ rfl rfl ?_ | (apply VInt.to; focus (simp only [Int.reduceAdd, Int.reduceSub, Int.reduceMul]; rfl); focus decide; focus decide) | refine VInt.fit (by omega) (by omega) ?_ | refine VGd.mk (by omega) ?_ | refine VIdx.at _ rfl (by first | omega | decide | simp) ?_); (conv => whnf))); exact ⟨rfl, rfl⟩))); (conv => whnf)))
              · have a6 : r = 34 := by omega
                refine VRet.mk [] .nil ?_
                rw [nameR_bad (by rw [← hI.1]; simp [okAll, okCh, a5, a6])]
                simp
              · have a6 : ¬ r = 34 := by omega
                refine ⟨⟨p + k, n + 1⟩, ⟨?_, ?_, ?_⟩, ?_, rfl, .cons 0 rfl .nil⟩
                · dsimp only; omega
                · dsimp only; omega
                · dsimp only
                  refine ⟨?_, ?_⟩
                  · rw [← hI.1, okAll, decide_eq_false (show ¬ p + k = 0 by omega)]
                    have : okCh (decide (p = 0)) r = true := by simp [okCh, a1, a2, a3, a4, a6]; try omega
                    rw [this, Bool.true_and]
                  · rw [← hI.2, List.length_cons]; omega
                · dsimp only; omega
            · have a5 : ¬ p = 0 := by omega
              refine ⟨⟨p + k, n + 1⟩, ⟨?_, ?_, ?_⟩, ?_, rfl, .cons 0 rfl .nil⟩
              · dsimp only; omega
              · dsimp only; omega
              · dsimp only
                refine ⟨?_, ?_⟩
                · rw [← hI.1, okAll, decide_eq_false (show ¬ p + k = 0 by omega)]
                  have : okCh (decide (p = 0)) r = true := by simp [okCh, a1, a2, a3, a4, a5]; try omega
                  rw [this, Bool.true_and]
                · rw [← hI.2, List.length_cons]; omega
              · dsimp only; omega
  · have h17 := f17_of l
    rw [List.drop_eq_nil_of_le (by omega)] at hI
    have hok : okAll true (chars l) = true := by rw [← hI.1]; rfl
    have hct : (chars l).length = n := by rw [← hI.2]; simp [chars]
    cases hd : (digitsR l).2.1 with
    | true =>
      rw [hd] at h17
      refine Fn.use (h17) ?_
      (conv => whnf)
      repeat ((first | refine VGd.mk rfl ?_ | refine VGo.at _ rfl ?_ | refine VGo.out rfl ?_ | refine VOne.mk rfl ?_ | refine VIf.tt ?_ | refine VIf.ff ?_ | refine VFz.nil ?_ | refine VFz.nils ?_ | refine VFz.full ?_ | refine VFz.own 0 _ _ _ rfl (by simp) ?_ | refine VFz.own 1 _ _ _ rfl (by simp) ?_ | refine VFz.keep ?_ | refine VObj.mk 0 _ rfl ?_ | refine VObj.mk 1 _ rfl ?_ | refine VObj.mk 2 _ rfl ?_ | refine VObj.mk 3 _ rfl ?_ | refine VTake.mk _ rfl rfl ?_ | (apply VInt.to; focus (simp only [Int.reduceAdd, Int.reduceSub, Int.reduceMul]; rfl); focus decide; focus decide) | refine VInt.fit (by omega) (by omega) ?_ | refine VGd.mk (by omega) ?_ | refine VIdx.at _ rfl (by first | omega | decide | simp) ?_ | (apply VQ.mk; focus ((conv => whnf); (repeat ((first | refine VGd.mk rfl ?_ | refine VGo.at _ rfl ?_ | refine VGo.out rfl ?_ | refine VOne.mk rfl ?_ | refine VIf.tt ?_ | refine VIf.ff ?_ | refine VFz.nil ?_ | refine VFz.nils ?_ | refine VFz.full ?_ | refine VFz.own 0 _ _ _ rfl (by simp) ?_ | refine VFz.own 1 _ _ _ rfl (by simp) ?_ | refine VFz.keep ?_ | refine VObj.mk 0 _ rfl ?_ | refine VObj.mk 1 _ rfl ?_ | refine VObj.mk 2 _ rfl ?_ | refine VObj.mk 3 _ rfl ?_ | refine VTake.mk _ rfl rfl ?_ | (apply VInt.to; focus (simp only [Int.reduceAdd, Int.reduceSub, Int.reduceMul]; rfl); focus decide; focus decide) | refine VInt.fit (by omega) (by omega) ?_ | refine VGd.mk (by omega) ?_ | refine VIdx.at _ rfl (by first | omega | decide | simp) ?_); (conv => whnf))); exact ⟨rfl, rfl⟩))); (conv => whnf))
      (first | refine VIf.dec (fun b1 => ?_) (fun b1 => ?_) | refine VIf.ndec (fun b1 => ?_) (fun b1 => ?_) | refine VIf.mk (fun b1 => ?_) (fun b1 => ?_)) <;> ((conv => whnf); repeat ((first | refine VGd.mk rfl ?_ | refine VGo.at _ rfl ?_ | refine VGo.out rfl ?_ | refine VOne.mk rfl ?_ | refine VIf.tt ?_ | refine VIf.ff ?_ | refine VFz.nil ?_ | refine VFz.nils ?_ | refine VFz.full ?_ | refine VFz.own 0 _ _ _ rfl (by simp) ?_ | refine VFz.own 1 _ _ _ rfl (by simp) ?_ | refine VFz.keep ?_ | refine VObj.mk 0 _ rfl ?_ | refine VObj.mk 1 _ rfl ?_ | refine VObj.mk 2 _ rfl ?_ | refine VObj.mk 3 _ rfl ?_ | refine VTake.mk _ rfl rfl ?_ | (apply VInt.to; focus (simp only [Int.reduceAdd, Int.reduceSub, Int.reduceMul]; rfl); focus decide; focus decide) | refine VInt.fit (by omega) (by omega) ?_ | refine VGd.mk (by omega) ?_ | refine VIdx.at _ rfl (by first | omega | decide | simp) ?_ | (apply VQ.mk; focus ((conv => whnf); (repeat ((first | refine VGd.mk rfl ?_ | refine VGo.at _ rfl ?_ | refine VGo.out rfl ?_ | refine VOne.mk rfl ?_ | refine VIf.tt ?_ | refine VIf.ff ?_ | refine VFz.nil ?_ | refine VFz.nils ?_ | refine VFz.full ?_ | refine VFz.own 0 _ _ _ rfl (by simp) ?_ | refine VFz.own 1 _ _ _ rfl (by simp) ?_ | refine VFz.keep ?_ | refine VObj.mk 0 _ rfl ?_ | refine VObj.mk 1 _ rfl ?_ | refine VObj.mk 2 _ rfl ?_ | refine VObj.mk 3 _ rfl ?_ | refine VTake.mk _ rfl rfl ?_ | (apply VInt.to; focus (simp only [Int.reduceAdd, Int.reduceSub, Int.reduceMul]; rfl); focus decide; focus decide) | refine VInt.fit (by omega) (by omega) ?_ | refine VGd.mk (by omega) ?_ | refine VIdx.at _ rfl (by first | omega | decide | simp) ?_); (conv => whnf))); exact ⟨rfl, rfl⟩))); (conv => whnf)))
      · (first | refine VIf.dec (fun b2 => ?_) (fun b2 => ?_) | refine VIf.ndec (fun b2 => ?_) (fun b2 => ?_) | refine VIf.mk (fun b2 => ?_) (fun b2 => ?_)) <;> ((conv => whnf); repeat ((first | refine VGd.mk rfl ?_ | refine VGo.at _ rfl ?_ | refine VGo.out rfl ?_ | refine VOne.mk rfl ?_ | refine VIf.tt ?_ | refine VIf.ff ?_ | refine VFz.nil ?_ | refine VFz.nils ?_ | refine VFz.full ?_ | refine VFz.own 0 _ _ _ rfl (by simp) ?_ | refine VFz.own 1 _ _ _ rfl (by simp) ?_ | refine VFz.keep ?_ | refine VObj.mk 0 _ rfl ?_ | refine VObj.mk 1 _ rfl ?_ | refine VObj.mk 2 _ rfl ?_ | refine VObj.mk 3 _ rfl ?_ | refine VTake.mk _ rfl rfl ?_ | (apply VInt.to; focus (simp only [Int.reduceAdd, Int.reduceSub, Int.reduceMul]; rfl); focus decide; focus decide) | refine VInt.fit (by omega) (by omega) ?_ | refine VGd.mk (by omega) ?_ | refine VIdx.at _ rfl (by first | omega | decide | simp) ?_ | (apply VQ.mk; focus ((conv => whnf); (repeat ((first | refine VGd.mk rfl ?_ | refine VGo.at _ rfl ?_ | refine VGo.out rfl ?_ | refine VOne.mk rfl ?_ | refine VIf.tt ?_ | refine VIf.ff ?_ | refine VFz.nil ?_ | refine VFz.nils ?_ | refine VFz.full ?_ | refine VFz.own 0 _ _ _ rfl (by simp) ?_ | refine VFz.own 1 _ _ _ rfl (by simp) ?_ | refine VFz.keep ?_ | refine VObj.mk 0 _ rfl ?_ | refine VObj.mk 1 _ rfl ?_ | refine VObj.mk 2 _ rfl ?_ | refine VObj.mk 3 _ rfl ?_ | refine VTake.mk _ rfl rfl ?_ | (apply VInt.to; focus (simp only [Int.reduceAdd, Int.reduceSub, Int.reduceMul]; rfl); focus decide; focus decide) | refine VInt.fit (by omega) (by omega) ?_ | refine VGd.mk (by omega) ?_ | refine VIdx.at _ rfl (by first | omega | decide | simp) ?_); (conv => whnf))); exact ⟨rfl, rfl⟩))); (conv => whnf)))
        · (first | refine VIf.dec (fun b3 => ?_) (fun b3 => ?_) | refine VIf.ndec (fun b3 => ?_) (fun b3 => ?_) | refine VIf.mk (fun b3 => ?_) (fun b3 => ?_)) <;> ((conv => whnf); repeat ((first | refine VGd.mk rfl ?_ | refine VGo.at _ rfl ?_ | refine VGo.out rfl ?_ | refine VOne.mk rfl ?_ | refine VIf.tt ?_ | refine VIf.ff ?_ | refine VFz.nil ?_ | refine VFz.nils ?_ | refine VFz.full ?_ | refine VFz.own 0 _ _ _ rfl (by simp) ?_ | refine VFz.own 1 _ _ _ rfl (by simp) ?_ | refine VFz.keep ?_ | refine VObj.mk 0 _ rfl ?_ | refine VObj.mk 1 _ rfl ?_ | refine VObj.mk 2 _ rfl ?_ | refine VObj.mk 3 _ rfl ?_ | refine VTake.mk _ rfl rfl ?_ | (apply VInt.to; focus (simp only [Int.reduceAdd, Int.reduceSub, Int.reduceMul]; rfl); focus decide; focus decide) | refine VInt.fit (by omega) (by omega) ?_ | refine VGd.mk (by omega) ?_ | refine VIdx.at _ rfl (by first | omega | decide | simp) ?_ | (apply VQ.mk; focus ((conv => whnf); (repeat ((first | refine VGd.mk rfl ?_ | refine VGo.at _ rfl ?_ | refine VGo.out rfl ?_ | refine VOne.mk rfl ?_ | refine VIf.tt ?_ | refine VIf.ff ?_ | refine VFz.nil ?_ | refine VFz.nils ?_ | refine VFz.full ?_ | refine VFz.own 0 _ _ _ rfl (by simp) ?_ | refine VFz.own 1 _ _ _ rfl (by simp) ?_ | refine VFz.keep ?_ | refine VObj.mk 0 _ rfl ?_ | refine VObj.mk 1 _ rfl ?_ | refine VObj.mk 2 _ rfl ?_ | refine VObj.mk 3 _ rfl ?_ | refine VTake.mk _ rfl rfl ?_ | (apply VInt.to; focus (simp only [Int.reduceAdd, Int.reduceSub, Int.reduceMul]; rfl); focus decide; focus decide) | refine VInt.fit (by omega) (by omega) ?_ | refine VGd.mk (by omega) ?_ | refine VIdx.at _ rfl (by first | omega | decide | simp) ?_); (conv => whnf))); exact ⟨rfl, rfl⟩))); (conv => whnf)))
          · refine VRet.mk [] .nil ?_
            simp [nameR, hok, hct, hd]
          · refine VRet.mk [] .nil ?_
            simp [nameR, hok, hct, hd]
        · refine VRet.mk [] .nil ?_
          simp [nameR, hok, hct, hd]
      · refine VRet.mk [] .nil ?_
        simp [nameR, hok, hct, hd]
    | false =>
      rw [hd] at h17
      refine Fn.use (h17) ?_
      (conv => whnf)
      repeat ((first | refine VGd.mk rfl ?_ | refine VGo.at _ rfl ?_ | refine VGo.out rfl ?_ | refine VOne.mk rfl ?_ | refine VIf.tt ?_ | refine VIf.ff ?_ | refine VFz.nil ?_ | refine VFz.nils ?_ | refine VFz.full ?_ | refine VFz.own 0 _ _ _ rfl (by simp) ?_ | refine VFz.own 1 _ _ _ rfl (by simp) ?_ | refine VFz.keep ?_ | refine VObj.mk 0 _ rfl ?_ | refine VObj.mk 1 _ rfl ?_ | refine VObj.mk 2 _ rfl ?_ | refine VObj.mk 3 _ rfl ?_ | refine VTake.mk _ rfl rfl ?_ | (apply VInt.to; focus (simp only [Int.reduceAdd, Int.reduceSub, Int.reduceMul]; rfl); focus decide; focus decide) | refine VInt.fit (by omega) (by omega) ?_ | refine VGd.mk (by omega) ?_ | refine VIdx.at _ rfl (by first | omega | decide | simp) ?_ | (apply VQ.mk; focus ((conv => whnf); (repeat ((first | refine VGd.mk rfl ?_ | refine VGo.at _ rfl ?_ | refine VGo.out rfl ?_ | refine VOne.mk rfl ?_ | refine VIf.tt ?_ | refine VIf.ff ?_ | refine VFz.nil ?_ | refine VFz.nils ?_ | refine VFz.full ?_ | refine VFz.own 0 _ _ _ rfl (by simp) ?_ | refine VFz.own 1 _ _ _ rfl (by simp) ?_ | refine VFz.keep ?_ | refine VObj.mk 0 _ rfl ?_ | refine VObj.mk 1 _ rfl ?_ | refine VObj.mk 2 _ rfl ?_ | refine VObj.mk 3 _ rfl ?_ | refine VTake.mk _ rfl rfl ?_ | (apply VInt.to; focus (simp only [Int.reduceAdd, Int.reduceSub, Int.reduceMul]; rfl); focus decide; focus decide) | refine VInt.fit (by omega) (by omega) ?_ | refine VGd.mk (by omega) ?_ | refine VIdx.at _ rfl (by first | omega | decide | simp) ?_); (conv => whnf))); exact ⟨rfl, rfl⟩))); (conv => whnf))
      (first | refine VIf.dec (fun b1 => ?_) (fun b1 => ?_) | refine VIf.ndec (fun b1 => ?_) (fun b1 => ?_) | refine VIf.mk (fun b1 => ?_) (fun b1 => ?_)) <;> ((conv => whnf); repeat ((first | refine VGd.mk rfl ?_ | refine VGo.at _ rfl ?_ | refine VGo.out rfl ?_ | refine VOne.mk rfl ?_ | refine VIf.tt ?_ | refine VIf.ff ?_ | refine VFz.nil ?_ | refine VFz.nils ?_ | refine VFz.full ?_ | refine VFz.own 0 _ _ _ rfl (by simp) ?_ | refine VFz.own 1 _ _ _ rfl (by simp) ?_ | refine VFz.keep ?_ | refine VObj.mk 0 _ rfl ?_ | refine VObj.mk 1 _ rfl ?_ | refine VObj.mk 2 _ rfl ?_ | refine VObj.mk 3 _ rfl ?_ | refine VTake.mk _ rfl rfl ?_ | (apply VInt.to; focus (simp only [Int.reduceAdd, Int.reduceSub, Int.reduceMul]; rfl); focus decide; focus decide) | refine VInt.fit (by omega) (by omega) ?_ | refine VGd.mk (by omega) ?_ | refine VIdx.at _ rfl (by first | omega | decide | simp) ?_ | (apply VQ.mk; focus ((conv => whnf); (repeat ((first | refine VGd.mk rfl ?_ | refine VGo.at _ rfl ?_ | refine VGo.out rfl ?_ | refine VOne.mk rfl ?_ | refine VIf.tt ?_ | refine VIf.ff ?_ | refine VFz.nil ?_ | refine VFz.nils ?_ | refine VFz.full ?_ | refine VFz.own 0 _ _ _ rfl (by simp) ?_ | refine VFz.own 1 _ _ _ rfl (by simp) ?_ | refine VFz.keep ?_ | refine VObj.mk 0 _ rfl ?_ | refine VObj.mk 1 _ rfl ?_ | refine VObj.mk 2 _ rfl ?_ | refine VObj.mk 3 _ rfl ?_ | refine VTake.mk _ rfl rfl ?_ | (apply VInt.to; focus (simp only [Int.reduceAdd, Int.reduceSub, Int.reduceMul]; rfl); focus decide; focus decide) | refine VInt.fit (by omega) (by omega) ?_ | refine VGd.mk (by omega) ?_ | refine VIdx.at _ rfl (by first | omega | decide | simp) ?_); (conv => whnf))); exact ⟨rfl, rfl⟩))); (conv => whnf)))
      · (first | refine VIf.dec (fun b2 => ?_) (fun b2 => ?_) | refine VIf.ndec (fun b2 => ?_) (fun b2 => ?_) | refine VIf.mk (fun b2 => ?_) (fun b2 => ?_)) <;> ((conv => whnf); repeat ((first | refine VGd.mk rfl ?_ | refine VGo.at _ rfl ?_ | refine VGo.out rfl ?_ | refine VOne.mk rfl ?_ | refine VIf.tt ?_ | refine VIf.ff ?_ | refine VFz.nil ?_ | refine VFz.nils ?_ | refine VFz.full ?_ | refine VFz.own 0 _ _ _ rfl (by simp) ?_ | refine VFz.own 1 _ _ _ rfl (by simp) ?_ | refine VFz.keep ?_ | refine VObj.mk 0 _ rfl ?_ | refine VObj.mk 1 _ rfl ?_ | refine VObj.mk 2 _ rfl ?_ | refine VObj.mk 3 _ rfl ?_ | refine VTake.mk _ rfl rfl ?_ | (apply VInt.to; focus (simp only [Int.reduceAdd, Int.reduceSub, Int.reduceMul]; rfl); focus decide; focus decide) | refine VInt.fit (by omega) (by omega) ?_ | refine VGd.mk (by omega) ?_ | refine VIdx.at _ rfl (by first | omega | decide | simp) ?_ | (apply VQ.mk; focus ((conv => whnf); (repeat ((first | refine VGd.mk rfl ?_ | refine VGo.at _ rfl ?_ | refine VGo.out rfl ?_ | refine VOne.mk rfl ?_ | refine VIf.tt ?_ | refine VIf.ff ?_ | refine VFz.nil ?_ | refine VFz.nils ?_ | refine VFz.full ?_ | refine VFz.own 0 _ _ _ rfl (by simp) ?_ | refine VFz.own 1 _ _ _ rfl (by simp) ?_ | refine VFz.keep ?_ | refine VObj.mk 0 _ rfl ?_ | refine VObj.mk 1 _ rfl ?_ | refine VObj.mk 2 _ rfl ?_ | refine VObj.mk 3 _ rfl ?_ | refine VTake.mk _ rfl rfl ?_ | (apply VInt.to; focus (simp only [Int.reduceAdd, Int.reduceSub, Int.reduceMul]; rfl); focus decide; focus decide) | refine VInt.fit (by omega) (by omega) ?_ | refine VGd.mk (by omega) ?_ | refine VIdx.at _ rfl (by first | omega | decide | simp) ?_); (conv => whnf))); exact ⟨rfl, rfl⟩))); (conv => whnf)))
        · (first | refine VIf.dec (fun b3 => ?_) (fun b3 => ?_) | refine VIf.ndec (fun b3 => ?_) (fun b3 => ?_) | refine VIf.mk (fun b3 => ?_) (fun b3 => ?_)) <;> ((conv => whnf); repeat ((first | refine VGd.mk rfl ?_ | refine VGo.at _ rfl ?_ | refine VGo.out rfl ?_ | refine VOne.mk rfl ?_ | refine VIf.tt ?_ | refine VIf.ff ?_ | refine VFz.nil ?_ | refine VFz.nils ?_ | refine VFz.full ?_ | refine VFz.own 0 _ _ _ rfl (by simp) ?_ | refine VFz.own 1 _ _ _ rfl (by simp) ?_ | refine VFz.keep ?_ | refine VObj.mk 0 _ rfl ?_ | refine VObj.mk 1 _ rfl ?_ | refine VObj.mk 2 _ rfl ?_ | refine VObj.mk 3 _ rfl ?_ | refine VTake.mk _ rfl rfl ?_ | (apply VInt.to; focus (simp only [Int.reduceAdd, Int.reduceSub, Int.reduceMul]; rfl); focus decide; focus decide) | refine VInt.fit (by omega) (by omega) ?_ | refine VGd.mk (by omega) ?_ | refine VIdx.at _ rfl (by first | omega | decide | simp) ?_ | (apply VQ.mk; focus ((conv => whnf); (repeat ((first | refine VGd.mk rfl ?_ | refine VGo.at _ rfl ?_ | refine VGo.out rfl ?_ | refine VOne.mk rfl ?_ | refine VIf.tt ?_ | refine VIf.ff ?_ | refine VFz.nil ?_ | refine VFz.nils ?_ | refine VFz.full ?_ | refine VFz.own 0 _ _ _ rfl (by simp) ?_ | refine VFz.own 1 _ _ _ rfl (by simp) ?_ | refine VFz.keep ?_ | refine VObj.mk 0 _ rfl ?_ | refine VObj.mk 1 _ rfl ?_ | refine VObj.mk 2 _ rfl ?_ | refine VObj.mk 3 _ rfl ?_ | refine VTake.mk _ rfl rfl ?_ | (apply VInt.to; focus (simp only [Int.reduceAdd, Int.reduceSub, Int.reduceMul]; rfl); focus decide; focus decide) | refine VInt.fit (by omega) (by omega) ?_ | refine VGd.mk (by omega) ?_ | refine VIdx.at _ rfl (by first | omega | decide | simp) ?_); (conv => whnf))); exact ⟨rfl, rfl⟩))); (conv => whnf)))
          · refine VRet.mk [] .nil ?_
            simp [nameR, hok, hct, hd]
            exact ⟨⟨by omega, by omega⟩, b3⟩
          · refine VRet.mk [] .nil ?_
            simp [nameR, hok, hct, hd]
            exact fun _ _ => b3
        · refine VRet.mk [] .nil ?_
          simp [nameR, hok, hct, hd]
          intros; omega
      · refine VRet.mk [] .nil ?_
        simp [nameR, hok, hct, hd]
        intros; omega
end Go.Proofs.YtfhkpcdccideeaaDoor

namespace Go.Proofs.YtfhkpcdccideeaaDoor
open Go Go.Av
theorem name_dup : nameR [100, 117, 112] = true := by decide +kernel
theorem name_7 : nameR [55] = false := by decide +kernel
theorem f8_of : Av.Fn Tryd.prog 8 [] (.bool true) := by
  have h1 := f11_of [100, 117, 112] (by decide)
  have h2 := f11_of [55] (by decide)
  rw [name_dup] at h1
  rw [name_7] at h2
  refine ACalls.of_W tb_ok (fn := Tryd.f8) (n := 6) (by kernel_rfl) rfl (by kernel_rfl) rfl rfl (by simp) ?_
  (conv => whnf)
  repeat ((first | refine VGd.mk rfl ?_ | refine VGo.at _ rfl ?_ | refine VGo.out rfl ?_ | refine VOne.mk rfl ?_ | refine VIf.tt ?_ | refine VIf.ff ?_ | refine VFz.nil ?_ | refine VFz.nils ?_ | refine VFz.full ?_ | refine VFz.own 0 _ _ _ rfl (by simp) ?_ | refine VFz.own 1 _ _ _ rfl (by simp) ?_ | refine VFz.keep ?_ | refine VObj.mk 0 _ rfl ?_ | refine VObj.mk 1 _ rfl ?_ | refine VObj.mk 2 _ rfl ?_ | refine VObj.mk 3 _ rfl ?_ | refine VTake.mk _ rfl rfl ?_ | (apply VInt.to; focus (simp only [Int.reduceAdd, Int.reduceSub, Int.reduceMul]; rfl); focus decide; focus decide) | refine VInt.fit (by omega) (by omega) ?_ | refine VGd.mk (by omega) ?_ | refine VIdx.at _ rfl (by first | omega | decide | simp) ?_ | (apply VQ.mk; focus ((conv => whnf); (repeat ((first | refine VGd.mk rfl ?_ | refine VGo.at _ rfl ?_ | refine VGo.out rfl ?_ | refine VOne.mk rfl ?_ | refine VIf.tt ?_ | refine VIf.ff ?_ | refine VFz.nil ?_ | refine VFz.nils ?_ | refine VFz.full ?_ | refine VFz.own 0 _ _ _ rfl (by simp) ?_ | refine VFz.own 1 _ _ _ rfl (by simp) ?_ | refine VFz.keep ?_ | refine VObj.mk 0 _ rfl ?_ | refine VObj.mk 1 _ rfl ?_ | refine VObj.mk 2 _ rfl ?_ | refine VObj.mk 3 _ rfl ?_ | refine VTake.mk _ rfl rfl ?_ | (apply VInt.to; focus (simp only [Int.reduceAdd, Int.reduceSub, Int.reduceMul]; rfl); focus decide; focus decide) | refine VInt.fit (by omega) (by omega) ?_ | refine VGd.mk (by omega) ?_ | refine VIdx.at _ rfl (by first | omega | decide | simp) ?_); (conv => whnf))); exact ⟨rfl, rfl⟩))); (conv => whnf))
  refine Fn.use (h1) ?_
  (conv => whnf)
  repeat ((first | refine VGd.mk rfl ?_ | refine VGo.at _ rfl ?_ | refine VGo.out rfl ?_ | refine VOne.mk rfl ?_ | refine VIf.tt ?_ | refine VIf.ff ?_ | refine VFz.nil ?_ | refine VFz.nils ?_ | refine VFz.full ?_ | refine VFz.own 0 _ _ _ rfl (by simp) ?_ | refine VFz.own 1 _ _ _ rfl (by simp) ?_ | refine VFz.keep ?_ | refine VObj.mk 0 _ rfl ?_ | refine VObj.mk 1 _ rfl ?_ | refine VObj.mk 2 _ rfl ?_ | refine VObj.mk 3 _ rfl ?_ | refine VTake.mk _ rfl rfl ?_ | (apply VInt.to; focus (simp only [Int.reduceAdd, Int.reduceSub, Int.reduceMul]; rfl); focus decide; focus decide) | refine VInt.fit (by omega) (by omega) ?_ | refine VGd.mk (by omega) ?_ | refine VIdx.at _ rfl (by first | omega | decide | simp) ?_ | (apply VQ.mk; focus ((conv => whnf); (repeat ((first | refine VGd.mk rfl ?_ | refine VGo.at _ rfl ?_ | refine VGo.out rfl ?_ | refine VOne.mk rfl ?_ | refine VIf.tt ?_ | refine VIf.ff ?_ | refine VFz.nil ?_ | refine VFz.nils ?_ | refine VFz.full ?_ | refine VFz.own 0 _ _ _ rfl (by simp) ?_ | refine VFz.own 1 _ _ _ rfl (by simp) ?_ | refine VFz.keep ?_ | refine VObj.mk 0 _ rfl ?_ | refine VObj.mk 1 _ rfl ?_ | refine VObj.mk 2 _ rfl ?_ | refine VObj.mk 3 _ rfl ?_ | refine VTake.mk _ rfl rfl ?_ | (apply VInt.to; focus (simp only [Int.reduceAdd, Int.reduceSub, Int.reduceMul]; rfl); focus decide; focus decide) | refine VInt.fit (by omega) (by omega) ?_ | refine VGd.mk (by omega) ?_ | refine VIdx.at _ rfl (by first | omega | decide | simp) ?_); (conv => whnf))); exact ⟨rfl, rfl⟩))); (conv => whnf))
  refine Fn.use (h2) ?_
  (conv => whnf)
  repeat ((first | refine VGd.mk rfl ?_ | refine VGo.at _ rfl ?_ | refine VGo.out rfl ?_ | refine VOne.mk rfl ?_ | refine VIf.tt ?_ | refine VIf.ff ?_ | refine VFz.nil ?_ | refine VFz.nils ?_ | refine VFz.full ?_ | refine VFz.own 0 _ _ _ rfl (by simp) ?_ | refine VFz.own 1 _ _ _ rfl (by simp) ?_ | refine VFz.keep ?_ | refine VObj.mk 0 _ rfl ?_ | refine VObj.mk 1 _ rfl ?_ | refine VObj.mk 2 _ rfl ?_ | refine VObj.mk 3 _ rfl ?_ | refine VTake.mk _ rfl rfl ?_ | (apply VInt.to; focus (simp only [Int.reduceAdd, Int.reduceSub, Int.reduceMul]; rfl); focus decide; focus decide) | refine VInt.fit (by omega) (by omega) ?_ | refine VGd.mk (by omega) ?_ | refine VIdx.at _ rfl (by first | omega | decide | simp) ?_ | (apply VQ.mk; focus ((conv => whnf); (repeat ((first | refine VGd.mk rfl ?_ | refine VGo.at _ rfl ?_ | refine VGo.out rfl ?_ | refine VOne.mk rfl ?_ | refine VIf.tt ?_ | refine VIf.ff ?_ | refine VFz.nil ?_ | refine VFz.nils ?_ | refine VFz.full ?_ | refine VFz.own 0 _ _ _ rfl (by simp) ?_ | refine VFz.own 1 _ _ _ rfl (by simp) ?_ | refine VFz.keep ?_ | refine VObj.mk 0 _ rfl ?_ | refine VObj.mk 1 _ rfl ?_ | refine VObj.mk 2 _ rfl ?_ | refine VObj.mk 3 _ rfl ?_ | refine VTake.mk _ rfl rfl ?_ | (apply VInt.to; focus (simp only [Int.reduceAdd, Int.reduceSub, Int.reduceMul]; rfl); focus decide; focus decide) | refine VInt.fit (by omega) (by omega) ?_ | refine VGd.mk (by omega) ?_ | refine VIdx.at _ rfl (by first | omega | decide | simp) ?_); (conv => whnf))); exact ⟨rfl, rfl⟩))); (conv => whnf))
  refine VRet.mk [] .nil ?_
  simp
end Go.Proofs.YtfhkpcdccideeaaDoor

namespace Go.Proofs.YtfhkpcdccideeaaDoor
open Go Go.Av
/-- The digits of a number. -/
def dg (u : Nat) : List Nat := if u < 10 then [u] else dg (u / 10) ++ [u % 10]
termination_by u
decreasing_by omega
theorem dg_lt {u : Nat} (h : u < 10) : dg u = [u] := by rw [dg, if_pos h]
theorem dg_ge {u : Nat} (h : ¬ u < 10) : dg u = dg (u / 10) ++ [u % 10] := by rw [dg, if_neg h]
theorem dg_len : ∀ (k u : Nat), u < 10 ^ (k + 1) → (dg u).length ≤ k + 1
  | 0, u, h => by rw [dg_lt (by omega)]; simp
  | k + 1, u, h => by
    by_cases hu : u < 10
    · rw [dg_lt hu]; simp
    · rw [dg_ge hu, List.length_append]
      have := dg_len k (u / 10) (by rw [Nat.pow_succ] at h; omega)
      simp; omega
theorem dg_digit : ∀ (u : Nat), ∀ d ∈ dg u, d ≤ 9 := by
  intro u
  induction u using Nat.strongRecOn with
  | _ u ih =>
    intro d hd
    by_cases hu : u < 10
    · rw [dg_lt hu] at hd; simp at hd; omega
    · rw [dg_ge hu, List.mem_append] at hd
      rcases hd with hd | hd
      · exact ih (u / 10) (by omega) d hd
      · simp at hd; omega
def dch (d : Nat) : UInt8 := UInt8.ofNat (48 + d)
theorem dch_toNat {d : Nat} (h : d ≤ 9) : (dch d).toNat = 48 + d := by simp [dch]; omega
/-- What decimal says. -/
def decimalR (n : Int) : List UInt8 := (if n < 0 then [45] else []) ++ (dg n.natAbs).map dch
theorem wrap_u64 (n : Int) : IntKind.u64.wrap n = n % 18446744073709551616 := by simp [IntKind.wrap]; rfl
theorem vint_wr {lo hi r wr : Int} {A : Int → Prop} (q : Int) (e : wr = q) (h : A q) : VInt lo hi r wr A := by subst e; exact .wrap h
theorem f9_of (n : Int) (hn : -9223372036854775808 ≤ n ∧ n ≤ 9223372036854775807) : Av.Fn Tryd.prog 9 [.int .i64 n] (.str (decimalR n)) := by
  by_cases hneg : n < 0
  · obtain ⟨u0, hu0⟩ : ∃ u0 : Nat, -n = u0 := ⟨(-n).toNat, by omega⟩
    have hlen := dg_len 19 u0 (by omega)
    refine ACalls.of_W tb_ok (fn := Tryd.f9) (n := 32) (by kernel_rfl) rfl (by kernel_rfl) rfl rfl (by simp) ?_
    (conv => whnf)
    repeat ((first | refine VGd.mk rfl ?_ | refine VGo.at _ rfl ?_ | refine VGo.out rfl ?_ | refine VOne.mk rfl ?_ | refine VIf.tt ?_ | refine VIf.ff ?_ | refine VFz.nil ?_ | refine VFz.nils ?_ | refine VFz.full ?_ | refine VFz.own 0 _ _ _ rfl (by simp) ?_ | refine VFz.own 1 _ _ _ rfl (by simp) ?_ | refine VFz.keep ?_ | refine VObj.mk 0 _ rfl ?_ | refine VObj.mk 1 _ rfl ?_ | refine VObj.mk 2 _ rfl ?_ | refine VObj.mk 3 _ rfl ?_ | refine VTake.mk _ rfl rfl ?_ | (apply VInt.to; focus (simp only [Int.reduceAdd, Int.reduceSub, Int.reduceMul]; rfl); focus decide; focus decide) | refine VInt.fit (by omega) (by omega) ?_ | refine VGd.mk (by omega) ?_ | refine VIdx.at _ rfl (by first | omega | decide | simp) ?_ | (apply VQ.mk; focus ((conv => whnf); (repeat ((first | refine VGd.mk rfl ?_ | refine VGo.at _ rfl ?_ | refine VGo.out rfl ?_ | refine VOne.mk rfl ?_ | refine VIf.tt ?_ | refine VIf.ff ?_ | refine VFz.nil ?_ | refine VFz.nils ?_ | refine VFz.full ?_ | refine VFz.own 0 _ _ _ rfl (by simp) ?_ | refine VFz.own 1 _ _ _ rfl (by simp) ?_ | refine VFz.keep ?_ | refine VObj.mk 0 _ rfl ?_ | refine VObj.mk 1 _ rfl ?_ | refine VObj.mk 2 _ rfl ?_ | refine VObj.mk 3 _ rfl ?_ | refine VTake.mk _ rfl rfl ?_ | (apply VInt.to; focus (simp only [Int.reduceAdd, Int.reduceSub, Int.reduceMul]; rfl); focus decide; focus decide) | refine VInt.fit (by omega) (by omega) ?_ | refine VGd.mk (by omega) ?_ | refine VIdx.at _ rfl (by first | omega | decide | simp) ?_); (conv => whnf))); exact ⟨rfl, rfl⟩))); (conv => whnf))
    refine vint_wr (n + 18446744073709551616) (by rw [wrap_u64]; omega) ?_
    (conv => whnf)
    repeat ((first | refine VGd.mk rfl ?_ | refine VGo.at _ rfl ?_ | refine VGo.out rfl ?_ | refine VOne.mk rfl ?_ | refine VIf.tt ?_ | refine VIf.ff ?_ | refine VFz.nil ?_ | refine VFz.nils ?_ | refine VFz.full ?_ | refine VFz.own 0 _ _ _ rfl (by simp) ?_ | refine VFz.own 1 _ _ _ rfl (by simp) ?_ | refine VFz.keep ?_ | refine VObj.mk 0 _ rfl ?_ | refine VObj.mk 1 _ rfl ?_ | refine VObj.mk 2 _ rfl ?_ | refine VObj.mk 3 _ rfl ?_ | refine VTake.mk _ rfl rfl ?_ | (apply VInt.to; focus (simp only [Int.reduceAdd, Int.reduceSub, Int.reduceMul]; rfl); focus decide; focus decide) | refine VInt.fit (by omega) (by omega) ?_ | refine VGd.mk (by omega) ?_ | refine VIdx.at _ rfl (by first | omega | decide | simp) ?_ | (apply VQ.mk; focus ((conv => whnf); (repeat ((first | refine VGd.mk rfl ?_ | refine VGo.at _ rfl ?_ | refine VGo.out rfl ?_ | refine VOne.mk rfl ?_ | refine VIf.tt ?_ | refine VIf.ff ?_ | refine VFz.nil ?_ | refine VFz.nils ?_ | refine VFz.full ?_ | refine VFz.own 0 _ _ _ rfl (by simp) ?_ | refine VFz.own 1 _ _ _ rfl (by simp) ?_ | refine VFz.keep ?_ | refine VObj.mk 0 _ rfl ?_ | refine VObj.mk 1 _ rfl ?_ | refine VObj.mk 2 _ rfl ?_ | refine VObj.mk 3 _ rfl ?_ | refine VTake.mk _ rfl rfl ?_ | (apply VInt.to; focus (simp only [Int.reduceAdd, Int.reduceSub, Int.reduceMul]; rfl); focus decide; focus decide) | refine VInt.fit (by omega) (by omega) ?_ | refine VGd.mk (by omega) ?_ | refine VIdx.at _ rfl (by first | omega | decide | simp) ?_); (conv => whnf))); exact ⟨rfl, rfl⟩))); (conv => whnf))
    refine VIf.yes (decide_eq_true hneg) ?_
    (conv => whnf)
    repeat ((first | refine VGd.mk rfl ?_ | refine VGo.at _ rfl ?_ | refine VGo.out rfl ?_ | refine VOne.mk rfl ?_ | refine VIf.tt ?_ | refine VIf.ff ?_ | refine VFz.nil ?_ | refine VFz.nils ?_ | refine VFz.full ?_ | refine VFz.own 0 _ _ _ rfl (by simp) ?_ | refine VFz.own 1 _ _ _ rfl (by simp) ?_ | refine VFz.keep ?_ | refine VObj.mk 0 _ rfl ?_ | refine VObj.mk 1 _ rfl ?_ | refine VObj.mk 2 _ rfl ?_ | refine VObj.mk 3 _ rfl ?_ | refine VTake.mk _ rfl rfl ?_ | (apply VInt.to; focus (simp only [Int.reduceAdd, Int.reduceSub, Int.reduceMul]; rfl); focus decide; focus decide) | refine VInt.fit (by omega) (by omega) ?_ | refine VGd.mk (by omega) ?_ | refine VIdx.at _ rfl (by first | omega | decide | simp) ?_ | (apply VQ.mk; focus ((conv => whnf); (repeat ((first | refine VGd.mk rfl ?_ | refine VGo.at _ rfl ?_ | refine VGo.out rfl ?_ | refine VOne.mk rfl ?_ | refine VIf.tt ?_ | refine VIf.ff ?_ | refine VFz.nil ?_ | refine VFz.nils ?_ | refine VFz.full ?_ | refine VFz.own 0 _ _ _ rfl (by simp) ?_ | refine VFz.own 1 _ _ _ rfl (by simp) ?_ | refine VFz.keep ?_ | refine VObj.mk 0 _ rfl ?_ | refine VObj.mk 1 _ rfl ?_ | refine VObj.mk 2 _ rfl ?_ | refine VObj.mk 3 _ rfl ?_ | refine VTake.mk _ rfl rfl ?_ | (apply VInt.to; focus (simp only [Int.reduceAdd, Int.reduceSub, Int.reduceMul]; rfl); focus decide; focus decide) | refine VInt.fit (by omega) (by omega) ?_ | refine VGd.mk (by omega) ?_ | refine VIdx.at _ rfl (by first | omega | decide | simp) ?_); (conv => whnf))); exact ⟨rfl, rfl⟩))); (conv => whnf))
    refine vint_wr u0 (by rw [wrap_u64]; omega) ?_
    (conv => whnf)
    repeat ((first | refine VGd.mk rfl ?_ | refine VGo.at _ rfl ?_ | refine VGo.out rfl ?_ | refine VOne.mk rfl ?_ | refine VIf.tt ?_ | refine VIf.ff ?_ | refine VFz.nil ?_ | refine VFz.nils ?_ | refine VFz.full ?_ | refine VFz.own 0 _ _ _ rfl (by simp) ?_ | refine VFz.own 1 _ _ _ rfl (by simp) ?_ | refine VFz.keep ?_ | refine VObj.mk 0 _ rfl ?_ | refine VObj.mk 1 _ rfl ?_ | refine VObj.mk 2 _ rfl ?_ | refine VObj.mk 3 _ rfl ?_ | refine VTake.mk _ rfl rfl ?_ | (apply VInt.to; focus (simp only [Int.reduceAdd, Int.reduceSub, Int.reduceMul]; rfl); focus decide; focus decide) | refine VInt.fit (by omega) (by omega) ?_ | refine VGd.mk (by omega) ?_ | refine VIdx.at _ rfl (by first | omega | decide | simp) ?_ | (apply VQ.mk; focus ((conv => whnf); (repeat ((first | refine VGd.mk rfl ?_ | refine VGo.at _ rfl ?_ | refine VGo.out rfl ?_ | refine VOne.mk rfl ?_ | refine VIf.tt ?_ | refine VIf.ff ?_ | refine VFz.nil ?_ | refine VFz.nils ?_ | refine VFz.full ?_ | refine VFz.own 0 _ _ _ rfl (by simp) ?_ | refine VFz.own 1 _ _ _ rfl (by simp) ?_ | refine VFz.keep ?_ | refine VObj.mk 0 _ rfl ?_ | refine VObj.mk 1 _ rfl ?_ | refine VObj.mk 2 _ rfl ?_ | refine VObj.mk 3 _ rfl ?_ | refine VTake.mk _ rfl rfl ?_ | (apply VInt.to; focus (simp only [Int.reduceAdd, Int.reduceSub, Int.reduceMul]; rfl); focus decide; focus decide) | refine VInt.fit (by omega) (by omega) ?_ | refine VGd.mk (by omega) ?_ | refine VIdx.at _ rfl (by first | omega | decide | simp) ?_); (conv => whnf))); exact ⟨rfl, rfl⟩))); (conv => whnf))
    refine VLoop.mk [3, 4] (Nat × List Nat) (fun i => [.int .u64 i.1, .str (i.2.map dch)]) (fun _ => [])
      (fun i => i.1 ≤ u0 ∧ ((i.2 = [] ∧ i.1 = u0) ∨ (i.2 ≠ [] ∧ (if i.1 = 0 then [] else dg i.1) ++ i.2 = dg u0))) (fun i => 2 * i.1 + if i.2 = [] then 1 else 0) (u0, []) ?_ ?_
    · exact ⟨⟨by simp, .inl ⟨rfl, rfl⟩⟩, rfl, .nil⟩
    rintro ⟨u, ds⟩ ⟨hu, hI⟩
    dsimp only at hu hI ⊢
    (conv => whnf)
    repeat ((first | refine VGd.mk rfl ?_ | refine VGo.at _ rfl ?_ | refine VGo.out rfl ?_ | refine VOne.mk rfl ?_ | refine VIf.tt ?_ | refine VIf.ff ?_ | refine VFz.nil ?_ | refine VFz.nils ?_ | refine VFz.full ?_ | refine VFz.own 0 _ _ _ rfl (by simp) ?_ | refine VFz.own 1 _ _ _ rfl (by simp) ?_ | refine VFz.keep ?_ | refine VObj.mk 0 _ rfl ?_ | refine VObj.mk 1 _ rfl ?_ | refine VObj.mk 2 _ rfl ?_ | refine VObj.mk 3 _ rfl ?_ | refine VTake.mk _ rfl rfl ?_ | (apply VInt.to; focus (simp only [Int.reduceAdd, Int.reduceSub, Int.reduceMul]; rfl); focus decide; focus decide) | refine VInt.fit (by omega) (by omega) ?_ | refine VGd.mk (by omega) ?_ | refine VIdx.at _ rfl (by first | omega | decide | simp) ?_ | (apply VQ.mk; focus ((conv => whnf); (repeat ((first | refine VGd.mk rfl ?_ | refine VGo.at _ rfl ?_ | refine VGo.out rfl ?_ | refine VOne.mk rfl ?_ | refine VIf.tt ?_ | refine VIf.ff ?_ | refine VFz.nil ?_ | refine VFz.nils ?_ | refine VFz.full ?_ | refine VFz.own 0 _ _ _ rfl (by simp) ?_ | refine VFz.own 1 _ _ _ rfl (by simp) ?_ | refine VFz.keep ?_ | refine VObj.mk 0 _ rfl ?_ | refine VObj.mk 1 _ rfl ?_ | refine VObj.mk 2 _ rfl ?_ | refine VObj.mk 3 _ rfl ?_ | refine VTake.mk _ rfl rfl ?_ | (apply VInt.to; focus (simp only [Int.reduceAdd, Int.reduceSub, Int.reduceMul]; rfl); focus decide; focus decide) | refine VInt.fit (by omega) (by omega) ?_ | refine VGd.mk (by omega) ?_ | refine VIdx.at _ rfl (by first | omega | decide | simp) ?_); (conv => whnf))); exact ⟨rfl, rfl⟩))); (conv => whnf))
    (first | refine VIf.dec (fun hp => ?_) (fun hp => ?_) | refine VIf.ndec (fun hp => ?_) (fun hp => ?_) | refine VIf.mk (fun hp => ?_) (fun hp => ?_)) <;> ((conv => whnf); repeat ((first | refine VGd.mk rfl ?_ | refine VGo.at _ rfl ?_ | refine VGo.out rfl ?_ | refine VOne.mk rfl ?_ | refine VIf.tt ?_ | refine VIf.ff ?_ | refine VFz.nil ?_ | refine VFz.nils ?_ | refine VFz.full ?_ | refine VFz.own 0 _ _ _ rfl (by simp) ?_ | refine VFz.own 1 _ _ _ rfl (by simp) ?_ | refine VFz.keep ?_ | refine VObj.mk 0 _ rfl ?_ | refine VObj.mk 1 _ rfl ?_ | refine VObj.mk 2 _ rfl ?_ | refine VObj.mk 3 _ rfl ?_ | refine VTake.mk _ rfl rfl ?_ | (apply VInt.to; focus (simp only [Int.reduceAdd, Int.reduceSub, Int.reduceMul]; rfl); focus decide; focus decide) | refine VInt.fit (by omega) (by omega) ?_ | refine VGd.mk (by omega) ?_ | refine VIdx.at _ rfl (by first | omega | decide | simp) ?_ | (apply VQ.mk; focus ((conv => whnf); (repeat ((first | refine VGd.mk rfl ?_ | refine VGo.at _ rfl ?_ | refine VGo.out rfl ?_ | refine VOne.mk rfl ?_ | refine VIf.tt ?_ | refine VIf.ff ?_ | refine VFz.nil ?_ | refine VFz.nils ?_ | refine VFz.full ?_ | refine VFz.own 0 _ _ _ rfl (by simp) ?_ | refine VFz.own 1 _ _ _ rfl (by simp) ?_ | refine VFz.keep ?_ | refine VObj.mk 0 _ rfl ?_ | refine VObj.mk 1 _ rfl ?_ | refine VObj.mk 2 _ rfl ?_ | refine VObj.mk 3 _ rfl ?_ | refine VTake.mk _ rfl rfl ?_ | (apply VInt.to; focus (simp only [Int.reduceAdd, Int.reduceSub, Int.reduceMul]; rfl); focus decide; focus decide) | refine VInt.fit (by omega) (by omega) ?_ | refine VGd.mk (by omega) ?_ | refine VIdx.at _ rfl (by first | omega | decide | simp) ?_); (conv => whnf))); exact ⟨rfl, rfl⟩))); (conv => whnf)))
    · have hq : 48 + u % 10 < 256 := by omega
      have hbd : ds.length ≤ 20 := by
        rcases hI with ⟨h, _⟩ | ⟨_, h⟩
        · rw [h]; simp
        · have := congrArg List.length h
          rw [List.length_append] at this
          omega
      rw [Int.tmod_eq_emod_of_nonneg (by omega)]
      (conv => whnf)
      repeat ((first | refine VGd.mk rfl ?_ | refine VGo.at _ rfl ?_ | refine VGo.out rfl ?_ | refine VOne.mk rfl ?_ | refine VIf.tt ?_ | refine VIf.ff ?_ | refine VFz.nil ?_ | refine VFz.nils ?_ | refine VFz.full ?_ | refine VFz.own 0 _ _ _ rfl (by simp) ?_ | refine VFz.own 1 _ _ _ rfl (by simp) ?_ | refine VFz.keep ?_ | refine VObj.mk 0 _ rfl ?_ | refine VObj.mk 1 _ rfl ?_ | refine VObj.mk 2 _ rfl ?_ | refine VObj.mk 3 _ rfl ?_ | refine VTake.mk _ rfl rfl ?_ | (apply VInt.to; focus (simp only [Int.reduceAdd, Int.reduceSub, Int.reduceMul]; rfl); focus decide; focus decide) | refine VInt.fit (by omega) (by omega) ?_ | refine VGd.mk (by omega) ?_ | refine VIdx.at _ rfl (by first | omega | decide | simp) ?_ | (apply VQ.mk; focus ((conv => whnf); (repeat ((first | refine VGd.mk rfl ?_ | refine VGo.at _ rfl ?_ | refine VGo.out rfl ?_ | refine VOne.mk rfl ?_ | refine VIf.tt ?_ | refine VIf.ff ?_ | refine VFz.nil ?_ | refine VFz.nils ?_ | refine VFz.full ?_ | refine VFz.own 0 _ _ _ rfl (by simp) ?_ | refine VFz.own 1 _ _ _ rfl (by simp) ?_ | refine VFz.keep ?_ | refine VObj.mk 0 _ rfl ?_ | refine VObj.mk 1 _ rfl ?_ | refine VObj.mk 2 _ rfl ?_ | refine VObj.mk 3 _ rfl ?_ | refine VTake.mk _ rfl rfl ?_ | (apply VInt.to; focus (simp only [Int.reduceAdd, Int.reduceSub, Int.reduceMul]; rfl); focus decide; focus decide) | refine VInt.fit (by omega) (by omega) ?_ | refine VGd.mk (by omega) ?_ | refine VIdx.at _ rfl (by first | omega | decide | simp) ?_); (conv => whnf))); exact ⟨rfl, rfl⟩))); (conv => whnf))
      refine VBytes.mk [dch (u % 10)] (by simp [dch_toNat (show u % 10 ≤ 9 by omega)]) rfl ?_
      (conv => whnf)
      repeat ((first | refine VGd.mk rfl ?_ | refine VGo.at _ rfl ?_ | refine VGo.out rfl ?_ | refine VOne.mk rfl ?_ | refine VIf.tt ?_ | refine VIf.ff ?_ | refine VFz.nil ?_ | refine VFz.nils ?_ | refine VFz.full ?_ | refine VFz.own 0 _ _ _ rfl (by simp) ?_ | refine VFz.own 1 _ _ _ rfl (by simp) ?_ | refine VFz.keep ?_ | refine VObj.mk 0 _ rfl ?_ | refine VObj.mk 1 _ rfl ?_ | refine VObj.mk 2 _ rfl ?_ | refine VObj.mk 3 _ rfl ?_ | refine VTake.mk _ rfl rfl ?_ | (apply VInt.to; focus (simp only [Int.reduceAdd, Int.reduceSub, Int.reduceMul]; rfl); focus decide; focus decide) | refine VInt.fit (by omega) (by omega) ?_ | refine VGd.mk (by omega) ?_ | refine VIdx.at _ rfl (by first | omega | decide | simp) ?_ | (apply VQ.mk; focus ((conv => whnf); (repeat ((first | refine VGd.mk rfl ?_ | refine VGo.at _ rfl ?_ | refine VGo.out rfl ?_ | refine VOne.mk rfl ?_ | refine VIf.tt ?_ | refine VIf.ff ?_ | refine VFz.nil ?_ | refine VFz.nils ?_ | refine VFz.full ?_ | refine VFz.own 0 _ _ _ rfl (by simp) ?_ | refine VFz.own 1 _ _ _ rfl (by simp) ?_ | refine VFz.keep ?_ | refine VObj.mk 0 _ rfl ?_ | refine VObj.mk 1 _ rfl ?_ | refine VObj.mk 2 _ rfl ?_ | refine VObj.mk 3 _ rfl ?_ | refine VTake.mk _ rfl rfl ?_ | (apply VInt.to; focus (simp only [Int.reduceAdd, Int.reduceSub, Int.reduceMul]; rfl); focus decide; focus decide) | refine VInt.fit (by omega) (by omega) ?_ | refine VGd.mk (by omega) ?_ | refine VIdx.at _ rfl (by first | omega | decide | simp) ?_); (conv => whnf))); exact ⟨rfl, rfl⟩))); (conv => whnf))
      refine VGd.mk (by simp; omega) ?_
      (conv => whnf)
      repeat ((first | refine VGd.mk rfl ?_ | refine VGo.at _ rfl ?_ | refine VGo.out rfl ?_ | refine VOne.mk rfl ?_ | refine VIf.tt ?_ | refine VIf.ff ?_ | refine VFz.nil ?_ | refine VFz.nils ?_ | refine VFz.full ?_ | refine VFz.own 0 _ _ _ rfl (by simp) ?_ | refine VFz.own 1 _ _ _ rfl (by simp) ?_ | refine VFz.keep ?_ | refine VObj.mk 0 _ rfl ?_ | refine VObj.mk 1 _ rfl ?_ | refine VObj.mk 2 _ rfl ?_ | refine VObj.mk 3 _ rfl ?_ | refine VTake.mk _ rfl rfl ?_ | (apply VInt.to; focus (simp only [Int.reduceAdd, Int.reduceSub, Int.reduceMul]; rfl); focus decide; focus decide) | refine VInt.fit (by omega) (by omega) ?_ | refine VGd.mk (by omega) ?_ | refine VIdx.at _ rfl (by first | omega | decide | simp) ?_ | (apply VQ.mk; focus ((conv => whnf); (repeat ((first | refine VGd.mk rfl ?_ | refine VGo.at _ rfl ?_ | refine VGo.out rfl ?_ | refine VOne.mk rfl ?_ | refine VIf.tt ?_ | refine VIf.ff ?_ | refine VFz.nil ?_ | refine VFz.nils ?_ | refine VFz.full ?_ | refine VFz.own 0 _ _ _ rfl (by simp) ?_ | refine VFz.own 1 _ _ _ rfl (by simp) ?_ | refine VFz.keep ?_ | refine VObj.mk 0 _ rfl ?_ | refine VObj.mk 1 _ rfl ?_ | refine VObj.mk 2 _ rfl ?_ | refine VObj.mk 3 _ rfl ?_ | refine VTake.mk _ rfl rfl ?_ | (apply VInt.to; focus (simp only [Int.reduceAdd, Int.reduceSub, Int.reduceMul]; rfl); focus decide; focus decide) | refine VInt.fit (by omega) (by omega) ?_ | refine VGd.mk (by omega) ?_ | refine VIdx.at _ rfl (by first | omega | decide | simp) ?_); (conv => whnf))); exact ⟨rfl, rfl⟩))); (conv => whnf))
      rw [Int.tdiv_eq_ediv_of_nonneg (by omega)]
      (conv => whnf)
      repeat ((first | refine VGd.mk rfl ?_ | refine VGo.at _ rfl ?_ | refine VGo.out rfl ?_ | refine VOne.mk rfl ?_ | refine VIf.tt ?_ | refine VIf.ff ?_ | refine VFz.nil ?_ | refine VFz.nils ?_ | refine VFz.full ?_ | refine VFz.own 0 _ _ _ rfl (by simp) ?_ | refine VFz.own 1 _ _ _ rfl (by simp) ?_ | refine VFz.keep ?_ | refine VObj.mk 0 _ rfl ?_ | refine VObj.mk 1 _ rfl ?_ | refine VObj.mk 2 _ rfl ?_ | refine VObj.mk 3 _ rfl ?_ | refine VTake.mk _ rfl rfl ?_ | (apply VInt.to; focus (simp only [Int.reduceAdd, Int.reduceSub, Int.reduceMul]; rfl); focus decide; focus decide) | refine VInt.fit (by omega) (by omega) ?_ | refine VGd.mk (by omega) ?_ | refine VIdx.at _ rfl (by first | omega | decide | simp) ?_ | (apply VQ.mk; focus ((conv => whnf); (repeat ((first | refine VGd.mk rfl ?_ | refine VGo.at _ rfl ?_ | refine VGo.out rfl ?_ | refine VOne.mk rfl ?_ | refine VIf.tt ?_ | refine VIf.ff ?_ | refine VFz.nil ?_ | refine VFz.nils ?_ | refine VFz.full ?_ | refine VFz.own 0 _ _ _ rfl (by simp) ?_ | refine VFz.own 1 _ _ _ rfl (by simp) ?_ | refine VFz.keep ?_ | refine VObj.mk 0 _ rfl ?_ | refine VObj.mk 1 _ rfl ?_ | refine VObj.mk 2 _ rfl ?_ | refine VObj.mk 3 _ rfl ?_ | refine VTake.mk _ rfl rfl ?_ | (apply VInt.to; focus (simp only [Int.reduceAdd, Int.reduceSub, Int.reduceMul]; rfl); focus decide; focus decide) | refine VInt.fit (by omega) (by omega) ?_ | refine VGd.mk (by omega) ?_ | refine VIdx.at _ rfl (by first | omega | decide | simp) ?_); (conv => whnf))); exact ⟨rfl, rfl⟩))); (conv => whnf))
      refine ⟨(u / 10, u % 10 :: ds), ⟨?_, .inr ⟨by simp, ?_⟩⟩, ?_, ?_, .nil⟩
      · dsimp only; omega
      · dsimp only
        have hd : (if u / 10 = 0 then [] else dg (u / 10)) ++ [u % 10] = dg u := by
          by_cases h10 : u < 10
          · rw [dg_lt h10, if_pos (by omega)]; simp; omega
          · rw [dg_ge h10, if_neg (by omega)]
        rw [show u % 10 :: ds = [u % 10] ++ ds from rfl, ← List.append_assoc, hd]
        rcases hI with ⟨h1, h2⟩ | ⟨hx, h1⟩
        · rw [h1, h2]; simp
        · rw [← h1, if_neg (by omega)]
      · dsimp only; rw [if_neg (by simp)]; omega
      · rfl
    · have hu00 : u = 0 := by omega
      (first | refine VIf.dec (fun he => ?_) (fun he => ?_) | refine VIf.ndec (fun he => ?_) (fun he => ?_) | refine VIf.mk (fun he => ?_) (fun he => ?_)) <;> ((conv => whnf); repeat ((first | refine VGd.mk rfl ?_ | refine VGo.at _ rfl ?_ | refine VGo.out rfl ?_ | refine VOne.mk rfl ?_ | refine VIf.tt ?_ | refine VIf.ff ?_ | refine VFz.nil ?_ | refine VFz.nils ?_ | refine VFz.full ?_ | refine VFz.own 0 _ _ _ rfl (by simp) ?_ | refine VFz.own 1 _ _ _ rfl (by simp) ?_ | refine VFz.keep ?_ | refine VObj.mk 0 _ rfl ?_ | refine VObj.mk 1 _ rfl ?_ | refine VObj.mk 2 _ rfl ?_ | refine VObj.mk 3 _ rfl ?_ | refine VTake.mk _ rfl rfl ?_ | (apply VInt.to; focus (simp only [Int.reduceAdd, Int.reduceSub, Int.reduceMul]; rfl); focus decide; focus decide) | refine VInt.fit (by omega) (by omega) ?_ | refine VGd.mk (by omega) ?_ | refine VIdx.at _ rfl (by first | omega | decide | simp) ?_ | (apply VQ.mk; focus ((conv => whnf); (repeat ((first | refine VGd.mk rfl ?_ | refine VGo.at _ rfl ?_ | refine VGo.out rfl ?_ | refine VOne.mk rfl ?_ | refine VIf.tt ?_ | refine VIf.ff ?_ | refine VFz.nil ?_ | refine VFz.nils ?_ | refine VFz.full ?_ | refine VFz.own 0 _ _ _ rfl (by simp) ?_ | refine VFz.own 1 _ _ _ rfl (by simp) ?_ | refine VFz.keep ?_ | refine VObj.mk 0 _ rfl ?_ | refine VObj.mk 1 _ rfl ?_ | refine VObj.mk 2 _ rfl ?_ | refine VObj.mk 3 _ rfl ?_ | refine VTake.mk _ rfl rfl ?_ | (apply VInt.to; focus (simp only [Int.reduceAdd, Int.reduceSub, Int.reduceMul]; rfl); focus decide; focus decide) | refine VInt.fit (by omega) (by omega) ?_ | refine VGd.mk (by omega) ?_ | refine VIdx.at _ rfl (by first | omega | decide | simp) ?_); (conv => whnf))); exact ⟨rfl, rfl⟩))); (conv => whnf)))
      · have hds : ds = [] := by simpa using he
        have hq : 48 + u % 10 < 256 := by omega
        have hbd : ds.length ≤ 20 := by
          rcases hI with ⟨h, _⟩ | ⟨_, h⟩
          · rw [h]; simp
          · have := congrArg List.length h
            rw [List.length_append] at this
            omega
        rw [Int.tmod_eq_emod_of_nonneg (by omega)]
        (conv => whnf)
        repeat ((first | refine VGd.mk rfl ?_ | refine VGo.at _ rfl ?_ | refine VGo.out rfl ?_ | refine VOne.mk rfl ?_ | refine VIf.tt ?_ | refine VIf.ff ?_ | refine VFz.nil ?_ | refine VFz.nils ?_ | refine VFz.full ?_ | refine VFz.own 0 _ _ _ rfl (by simp) ?_ | refine VFz.own 1 _ _ _ rfl (by simp) ?_ | refine VFz.keep ?_ | refine VObj.mk 0 _ rfl ?_ | refine VObj.mk 1 _ rfl ?_ | refine VObj.mk 2 _ rfl ?_ | refine VObj.mk 3 _ rfl ?_ | refine VTake.mk _ rfl rfl ?_ | (apply VInt.to; focus (simp only [Int.reduceAdd, Int.reduceSub, Int.reduceMul]; rfl); focus decide; focus decide) | refine VInt.fit (by omega) (by omega) ?_ | refine VGd.mk (by omega) ?_ | refine VIdx.at _ rfl (by first | omega | decide | simp) ?_ | (apply VQ.mk; focus ((conv => whnf); (repeat ((first | refine VGd.mk rfl ?_ | refine VGo.at _ rfl ?_ | refine VGo.out rfl ?_ | refine VOne.mk rfl ?_ | refine VIf.tt ?_ | refine VIf.ff ?_ | refine VFz.nil ?_ | refine VFz.nils ?_ | refine VFz.full ?_ | refine VFz.own 0 _ _ _ rfl (by simp) ?_ | refine VFz.own 1 _ _ _ rfl (by simp) ?_ | refine VFz.keep ?_ | refine VObj.mk 0 _ rfl ?_ | refine VObj.mk 1 _ rfl ?_ | refine VObj.mk 2 _ rfl ?_ | refine VObj.mk 3 _ rfl ?_ | refine VTake.mk _ rfl rfl ?_ | (apply VInt.to; focus (simp only [Int.reduceAdd, Int.reduceSub, Int.reduceMul]; rfl); focus decide; focus decide) | refine VInt.fit (by omega) (by omega) ?_ | refine VGd.mk (by omega) ?_ | refine VIdx.at _ rfl (by first | omega | decide | simp) ?_); (conv => whnf))); exact ⟨rfl, rfl⟩))); (conv => whnf))
        refine VBytes.mk [dch (u % 10)] (by simp [dch_toNat (show u % 10 ≤ 9 by omega)]) rfl ?_
        (conv => whnf)
        repeat ((first | refine VGd.mk rfl ?_ | refine VGo.at _ rfl ?_ | refine VGo.out rfl ?_ | refine VOne.mk rfl ?_ | refine VIf.tt ?_ | refine VIf.ff ?_ | refine VFz.nil ?_ | refine VFz.nils ?_ | refine VFz.full ?_ | refine VFz.own 0 _ _ _ rfl (by simp) ?_ | refine VFz.own 1 _ _ _ rfl (by simp) ?_ | refine VFz.keep ?_ | refine VObj.mk 0 _ rfl ?_ | refine VObj.mk 1 _ rfl ?_ | refine VObj.mk 2 _ rfl ?_ | refine VObj.mk 3 _ rfl ?_ | refine VTake.mk _ rfl rfl ?_ | (apply VInt.to; focus (simp only [Int.reduceAdd, Int.reduceSub, Int.reduceMul]; rfl); focus decide; focus decide) | refine VInt.fit (by omega) (by omega) ?_ | refine VGd.mk (by omega) ?_ | refine VIdx.at _ rfl (by first | omega | decide | simp) ?_ | (apply VQ.mk; focus ((conv => whnf); (repeat ((first | refine VGd.mk rfl ?_ | refine VGo.at _ rfl ?_ | refine VGo.out rfl ?_ | refine VOne.mk rfl ?_ | refine VIf.tt ?_ | refine VIf.ff ?_ | refine VFz.nil ?_ | refine VFz.nils ?_ | refine VFz.full ?_ | refine VFz.own 0 _ _ _ rfl (by simp) ?_ | refine VFz.own 1 _ _ _ rfl (by simp) ?_ | refine VFz.keep ?_ | refine VObj.mk 0 _ rfl ?_ | refine VObj.mk 1 _ rfl ?_ | refine VObj.mk 2 _ rfl ?_ | refine VObj.mk 3 _ rfl ?_ | refine VTake.mk _ rfl rfl ?_ | (apply VInt.to; focus (simp only [Int.reduceAdd, Int.reduceSub, Int.reduceMul]; rfl); focus decide; focus decide) | refine VInt.fit (by omega) (by omega) ?_ | refine VGd.mk (by omega) ?_ | refine VIdx.at _ rfl (by first | omega | decide | simp) ?_); (conv => whnf))); exact ⟨rfl, rfl⟩))); (conv => whnf))
        refine VGd.mk (by simp; omega) ?_
        (conv => whnf)
        repeat ((first | refine VGd.mk rfl ?_ | refine VGo.at _ rfl ?_ | refine VGo.out rfl ?_ | refine VOne.mk rfl ?_ | refine VIf.tt ?_ | refine VIf.ff ?_ | refine VFz.nil ?_ | refine VFz.nils ?_ | refine VFz.full ?_ | refine VFz.own 0 _ _ _ rfl (by simp) ?_ | refine VFz.own 1 _ _ _ rfl (by simp) ?_ | refine VFz.keep ?_ | refine VObj.mk 0 _ rfl ?_ | refine VObj.mk 1 _ rfl ?_ | refine VObj.mk 2 _ rfl ?_ | refine VObj.mk 3 _ rfl ?_ | refine VTake.mk _ rfl rfl ?_ | (apply VInt.to; focus (simp only [Int.reduceAdd, Int.reduceSub, Int.reduceMul]; rfl); focus decide; focus decide) | refine VInt.fit (by omega) (by omega) ?_ | refine VGd.mk (by omega) ?_ | refine VIdx.at _ rfl (by first | omega | decide | simp) ?_ | (apply VQ.mk; focus ((conv => whnf); (repeat ((first | refine VGd.mk rfl ?_ | refine VGo.at _ rfl ?_ | refine VGo.out rfl ?_ | refine VOne.mk rfl ?_ | refine VIf.tt ?_ | refine VIf.ff ?_ | refine VFz.nil ?_ | refine VFz.nils ?_ | refine VFz.full ?_ | refine VFz.own 0 _ _ _ rfl (by simp) ?_ | refine VFz.own 1 _ _ _ rfl (by simp) ?_ | refine VFz.keep ?_ | refine VObj.mk 0 _ rfl ?_ | refine VObj.mk 1 _ rfl ?_ | refine VObj.mk 2 _ rfl ?_ | refine VObj.mk 3 _ rfl ?_ | refine VTake.mk _ rfl rfl ?_ | (apply VInt.to; focus (simp only [Int.reduceAdd, Int.reduceSub, Int.reduceMul]; rfl); focus decide; focus decide) | refine VInt.fit (by omega) (by omega) ?_ | refine VGd.mk (by omega) ?_ | refine VIdx.at _ rfl (by first | omega | decide | simp) ?_); (conv => whnf))); exact ⟨rfl, rfl⟩))); (conv => whnf))
        rw [Int.tdiv_eq_ediv_of_nonneg (by omega)]
        (conv => whnf)
        repeat ((first | refine VGd.mk rfl ?_ | refine VGo.at _ rfl ?_ | refine VGo.out rfl ?_ | refine VOne.mk rfl ?_ | refine VIf.tt ?_ | refine VIf.ff ?_ | refine VFz.nil ?_ | refine VFz.nils ?_ | refine VFz.full ?_ | refine VFz.own 0 _ _ _ rfl (by simp) ?_ | refine VFz.own 1 _ _ _ rfl (by simp) ?_ | refine VFz.keep ?_ | refine VObj.mk 0 _ rfl ?_ | refine VObj.mk 1 _ rfl ?_ | refine VObj.mk 2 _ rfl ?_ | refine VObj.mk 3 _ rfl ?_ | refine VTake.mk _ rfl rfl ?_ | (apply VInt.to; focus (simp only [Int.reduceAdd, Int.reduceSub, Int.reduceMul]; rfl); focus decide; focus decide) | refine VInt.fit (by omega) (by omega) ?_ | refine VGd.mk (by omega) ?_ | refine VIdx.at _ rfl (by first | omega | decide | simp) ?_ | (apply VQ.mk; focus ((conv => whnf); (repeat ((first | refine VGd.mk rfl ?_ | refine VGo.at _ rfl ?_ | refine VGo.out rfl ?_ | refine VOne.mk rfl ?_ | refine VIf.tt ?_ | refine VIf.ff ?_ | refine VFz.nil ?_ | refine VFz.nils ?_ | refine VFz.full ?_ | refine VFz.own 0 _ _ _ rfl (by simp) ?_ | refine VFz.own 1 _ _ _ rfl (by simp) ?_ | refine VFz.keep ?_ | refine VObj.mk 0 _ rfl ?_ | refine VObj.mk 1 _ rfl ?_ | refine VObj.mk 2 _ rfl ?_ | refine VObj.mk 3 _ rfl ?_ | refine VTake.mk _ rfl rfl ?_ | (apply VInt.to; focus (simp only [Int.reduceAdd, Int.reduceSub, Int.reduceMul]; rfl); focus decide; focus decide) | refine VInt.fit (by omega) (by omega) ?_ | refine VGd.mk (by omega) ?_ | refine VIdx.at _ rfl (by first | omega | decide | simp) ?_); (conv => whnf))); exact ⟨rfl, rfl⟩))); (conv => whnf))
        refine ⟨(u / 10, u % 10 :: ds), ⟨?_, .inr ⟨by simp, ?_⟩⟩, ?_, ?_, .nil⟩
        · dsimp only; omega
        · dsimp only
          have hd : (if u / 10 = 0 then [] else dg (u / 10)) ++ [u % 10] = dg u := by
            by_cases h10 : u < 10
            · rw [dg_lt h10, if_pos (by omega)]; simp; omega
            · rw [dg_ge h10, if_neg (by omega)]
          rw [show u % 10 :: ds = [u % 10] ++ ds from rfl, ← List.append_assoc, hd]
          rcases hI with ⟨h1, h2⟩ | ⟨hx, h1⟩
          · rw [h1, h2]; simp
          · exact absurd hds hx
        · dsimp only; rw [if_neg (by simp)]; rw [if_pos hds]; omega
        · rfl
      · have hds : ds ≠ [] := by intro h; exact he (by rw [h]; rfl)
        have hfin : ds = dg u0 := by
          rcases hI with ⟨h1, _⟩ | ⟨_, h1⟩
          · exact absurd h1 hds
          · rw [← h1, if_pos hu00]; rfl
        subst hfin
        refine VIf.yes (decide_eq_true hneg) ?_; (conv => whnf); (repeat ((first | refine VOne.mk rfl ?_ | refine VIf.tt ?_ | refine VIf.ff ?_ | refine VFz.nil ?_ | refine VFz.keep ?_); (conv => whnf))); refine VGd.mk (by simp; omega) ?_; (conv => whnf); (repeat ((first | refine VOne.mk rfl ?_ | refine VIf.tt ?_ | refine VIf.ff ?_ | refine VFz.nil ?_ | refine VFz.keep ?_); (conv => whnf))); refine VRet.mk [] .nil ?_; simp [decimalR, hneg, show n.natAbs = u0 by omega]
  · obtain ⟨u0, rfl⟩ : ∃ u0 : Nat, n = u0 := ⟨n.toNat, by omega⟩
    have hlen := dg_len 19 u0 (by omega)
    refine ACalls.of_W tb_ok (fn := Tryd.f9) (n := 32) (by kernel_rfl) rfl (by kernel_rfl) rfl rfl (by simp) ?_
    (conv => whnf)
    repeat ((first | refine VGd.mk rfl ?_ | refine VGo.at _ rfl ?_ | refine VGo.out rfl ?_ | refine VOne.mk rfl ?_ | refine VIf.tt ?_ | refine VIf.ff ?_ | refine VFz.nil ?_ | refine VFz.nils ?_ | refine VFz.full ?_ | refine VFz.own 0 _ _ _ rfl (by simp) ?_ | refine VFz.own 1 _ _ _ rfl (by simp) ?_ | refine VFz.keep ?_ | refine VObj.mk 0 _ rfl ?_ | refine VObj.mk 1 _ rfl ?_ | refine VObj.mk 2 _ rfl ?_ | refine VObj.mk 3 _ rfl ?_ | refine VTake.mk _ rfl rfl ?_ | (apply VInt.to; focus (simp only [Int.reduceAdd, Int.reduceSub, Int.reduceMul]; rfl); focus decide; focus decide) | refine VInt.fit (by omega) (by omega) ?_ | refine VGd.mk (by omega) ?_ | refine VIdx.at _ rfl (by first | omega | decide | simp) ?_ | (apply VQ.mk; focus ((conv => whnf); (repeat ((first | refine VGd.mk rfl ?_ | refine VGo.at _ rfl ?_ | refine VGo.out rfl ?_ | refine VOne.mk rfl ?_ | refine VIf.tt ?_ | refine VIf.ff ?_ | refine VFz.nil ?_ | refine VFz.nils ?_ | refine VFz.full ?_ | refine VFz.own 0 _ _ _ rfl (by simp) ?_ | refine VFz.own 1 _ _ _ rfl (by simp) ?_ | refine VFz.keep ?_ | refine VObj.mk 0 _ rfl ?_ | refine VObj.mk 1 _ rfl ?_ | refine VObj.mk 2 _ rfl ?_ | refine VObj.mk 3 _ rfl ?_ | refine VTake.mk _ rfl rfl ?_ | (apply VInt.to; focus (simp only [Int.reduceAdd, Int.reduceSub, Int.reduceMul]; rfl); focus decide; focus decide) | refine VInt.fit (by omega) (by omega) ?_ | refine VGd.mk (by omega) ?_ | refine VIdx.at _ rfl (by first | omega | decide | simp) ?_); (conv => whnf))); exact ⟨rfl, rfl⟩))); (conv => whnf))
    refine VLoop.mk [3, 4] (Nat × List Nat) (fun i => [.int .u64 i.1, .str (i.2.map dch)]) (fun _ => [])
      (fun i => i.1 ≤ u0 ∧ ((i.2 = [] ∧ i.1 = u0) ∨ (i.2 ≠ [] ∧ (if i.1 = 0 then [] else dg i.1) ++ i.2 = dg u0))) (fun i => 2 * i.1 + if i.2 = [] then 1 else 0) (u0, []) ?_ ?_
    · exact ⟨⟨by simp, .inl ⟨rfl, rfl⟩⟩, rfl, .nil⟩
    rintro ⟨u, ds⟩ ⟨hu, hI⟩
    dsimp only at hu hI ⊢
    (conv => whnf)
    repeat ((first | refine VGd.mk rfl ?_ | refine VGo.at _ rfl ?_ | refine VGo.out rfl ?_ | refine VOne.mk rfl ?_ | refine VIf.tt ?_ | refine VIf.ff ?_ | refine VFz.nil ?_ | refine VFz.nils ?_ | refine VFz.full ?_ | refine VFz.own 0 _ _ _ rfl (by simp) ?_ | refine VFz.own 1 _ _ _ rfl (by simp) ?_ | refine VFz.keep ?_ | refine VObj.mk 0 _ rfl ?_ | refine VObj.mk 1 _ rfl ?_ | refine VObj.mk 2 _ rfl ?_ | refine VObj.mk 3 _ rfl ?_ | refine VTake.mk _ rfl rfl ?_ | (apply VInt.to; focus (simp only [Int.reduceAdd, Int.reduceSub, Int.reduceMul]; rfl); focus decide; focus decide) | refine VInt.fit (by omega) (by omega) ?_ | refine VGd.mk (by omega) ?_ | refine VIdx.at _ rfl (by first | omega | decide | simp) ?_ | (apply VQ.mk; focus ((conv => whnf); (repeat ((first | refine VGd.mk rfl ?_ | refine VGo.at _ rfl ?_ | refine VGo.out rfl ?_ | refine VOne.mk rfl ?_ | refine VIf.tt ?_ | refine VIf.ff ?_ | refine VFz.nil ?_ | refine VFz.nils ?_ | refine VFz.full ?_ | refine VFz.own 0 _ _ _ rfl (by simp) ?_ | refine VFz.own 1 _ _ _ rfl (by simp) ?_ | refine VFz.keep ?_ | refine VObj.mk 0 _ rfl ?_ | refine VObj.mk 1 _ rfl ?_ | refine VObj.mk 2 _ rfl ?_ | refine VObj.mk 3 _ rfl ?_ | refine VTake.mk _ rfl rfl ?_ | (apply VInt.to; focus (simp only [Int.reduceAdd, Int.reduceSub, Int.reduceMul]; rfl); focus decide; focus decide) | refine VInt.fit (by omega) (by omega) ?_ | refine VGd.mk (by omega) ?_ | refine VIdx.at _ rfl (by first | omega | decide | simp) ?_); (conv => whnf))); exact ⟨rfl, rfl⟩))); (conv => whnf))
    (first | refine VIf.dec (fun hp => ?_) (fun hp => ?_) | refine VIf.ndec (fun hp => ?_) (fun hp => ?_) | refine VIf.mk (fun hp => ?_) (fun hp => ?_)) <;> ((conv => whnf); repeat ((first | refine VGd.mk rfl ?_ | refine VGo.at _ rfl ?_ | refine VGo.out rfl ?_ | refine VOne.mk rfl ?_ | refine VIf.tt ?_ | refine VIf.ff ?_ | refine VFz.nil ?_ | refine VFz.nils ?_ | refine VFz.full ?_ | refine VFz.own 0 _ _ _ rfl (by simp) ?_ | refine VFz.own 1 _ _ _ rfl (by simp) ?_ | refine VFz.keep ?_ | refine VObj.mk 0 _ rfl ?_ | refine VObj.mk 1 _ rfl ?_ | refine VObj.mk 2 _ rfl ?_ | refine VObj.mk 3 _ rfl ?_ | refine VTake.mk _ rfl rfl ?_ | (apply VInt.to; focus (simp only [Int.reduceAdd, Int.reduceSub, Int.reduceMul]; rfl); focus decide; focus decide) | refine VInt.fit (by omega) (by omega) ?_ | refine VGd.mk (by omega) ?_ | refine VIdx.at _ rfl (by first | omega | decide | simp) ?_ | (apply VQ.mk; focus ((conv => whnf); (repeat ((first | refine VGd.mk rfl ?_ | refine VGo.at _ rfl ?_ | refine VGo.out rfl ?_ | refine VOne.mk rfl ?_ | refine VIf.tt ?_ | refine VIf.ff ?_ | refine VFz.nil ?_ | refine VFz.nils ?_ | refine VFz.full ?_ | refine VFz.own 0 _ _ _ rfl (by simp) ?_ | refine VFz.own 1 _ _ _ rfl (by simp) ?_ | refine VFz.keep ?_ | refine VObj.mk 0 _ rfl ?_ | refine VObj.mk 1 _ rfl ?_ | refine VObj.mk 2 _ rfl ?_ | refine VObj.mk 3 _ rfl ?_ | refine VTake.mk _ rfl rfl ?_ | (apply VInt.to; focus (simp only [Int.reduceAdd, Int.reduceSub, Int.reduceMul]; rfl); focus decide; focus decide) | refine VInt.fit (by omega) (by omega) ?_ | refine VGd.mk (by omega) ?_ | refine VIdx.at _ rfl (by first | omega | decide | simp) ?_); (conv => whnf))); exact ⟨rfl, rfl⟩))); (conv => whnf)))
    · have hq : 48 + u % 10 < 256 := by omega
      have hbd : ds.length ≤ 20 := by
        rcases hI with ⟨h, _⟩ | ⟨_, h⟩
        · rw [h]; simp
        · have := congrArg List.length h
          rw [List.length_append] at this
          omega
      rw [Int.tmod_eq_emod_of_nonneg (by omega)]
      (conv => whnf)
      repeat ((first | refine VGd.mk rfl ?_ | refine VGo.at _ rfl ?_ | refine VGo.out rfl ?_ | refine VOne.mk rfl ?_ | refine VIf.tt ?_ | refine VIf.ff ?_ | refine VFz.nil ?_ | refine VFz.nils ?_ | refine VFz.full ?_ | refine VFz.own 0 _ _ _ rfl (by simp) ?_ | refine VFz.own 1 _ _ _ rfl (by simp) ?_ | refine VFz.keep ?_ | refine VObj.mk 0 _ rfl ?_ | refine VObj.mk 1 _ rfl ?_ | refine VObj.mk 2 _ rfl ?_ | refine VObj.mk 3 _ rfl ?_ | refine VTake.mk _ rfl rfl ?_ | (apply VInt.to; focus (simp only [Int.reduceAdd, Int.reduceSub, Int.reduceMul]; rfl); focus decide; focus decide) | refine VInt.fit (by omega) (by omega) ?_ | refine VGd.mk (by omega) ?_ | refine VIdx.at _ rfl (by first | omega | decide | simp) ?_ | (apply VQ.mk; focus ((conv => whnf); (repeat ((first | refine VGd.mk rfl ?_ | refine VGo.at _ rfl ?_ | refine VGo.out rfl ?_ | refine VOne.mk rfl ?_ | refine VIf.tt ?_ | refine VIf.ff ?_ | refine VFz.nil ?_ | refine VFz.nils ?_ | refine VFz.full ?_ | refine VFz.own 0 _ _ _ rfl (by simp) ?_ | refine VFz.own 1 _ _ _ rfl (by simp) ?_ | refine VFz.keep ?_ | refine VObj.mk 0 _ rfl ?_ | refine VObj.mk 1 _ rfl ?_ | refine VObj.mk 2 _ rfl ?_ | refine VObj.mk 3 _ rfl ?_ | refine VTake.mk _ rfl rfl ?_ | (apply VInt.to; focus (simp only [Int.reduceAdd, Int.reduceSub, Int.reduceMul]; rfl); focus decide; focus decide) | refine VInt.fit (by omega) (by omega) ?_ | refine VGd.mk (by omega) ?_ | refine VIdx.at _ rfl (by first | omega | decide | simp) ?_); (conv => whnf))); exact ⟨rfl, rfl⟩))); (conv => whnf))
      refine VBytes.mk [dch (u % 10)] (by simp [dch_toNat (show u % 10 ≤ 9 by omega)]) rfl ?_
      (conv => whnf)
      repeat ((first | refine VGd.mk rfl ?_ | refine VGo.at _ rfl ?_ | refine VGo.out rfl ?_ | refine VOne.mk rfl ?_ | refine VIf.tt ?_ | refine VIf.ff ?_ | refine VFz.nil ?_ | refine VFz.nils ?_ | refine VFz.full ?_ | refine VFz.own 0 _ _ _ rfl (by simp) ?_ | refine VFz.own 1 _ _ _ rfl (by simp) ?_ | refine VFz.keep ?_ | refine VObj.mk 0 _ rfl ?_ | refine VObj.mk 1 _ rfl ?_ | refine VObj.mk 2 _ rfl ?_ | refine VObj.mk 3 _ rfl ?_ | refine VTake.mk _ rfl rfl ?_ | (apply VInt.to; focus (simp only [Int.reduceAdd, Int.reduceSub, Int.reduceMul]; rfl); focus decide; focus decide) | refine VInt.fit (by omega) (by omega) ?_ | refine VGd.mk (by omega) ?_ | refine VIdx.at _ rfl (by first | omega | decide | simp) ?_ | (apply VQ.mk; focus ((conv => whnf); (repeat ((first | refine VGd.mk rfl ?_ | refine VGo.at _ rfl ?_ | refine VGo.out rfl ?_ | refine VOne.mk rfl ?_ | refine VIf.tt ?_ | refine VIf.ff ?_ | refine VFz.nil ?_ | refine VFz.nils ?_ | refine VFz.full ?_ | refine VFz.own 0 _ _ _ rfl (by simp) ?_ | refine VFz.own 1 _ _ _ rfl (by simp) ?_ | refine VFz.keep ?_ | refine VObj.mk 0 _ rfl ?_ | refine VObj.mk 1 _ rfl ?_ | refine VObj.mk 2 _ rfl ?_ | refine VObj.mk 3 _ rfl ?_ | refine VTake.mk _ rfl rfl ?_ | (apply VInt.to; focus (simp only [Int.reduceAdd, Int.reduceSub, Int.reduceMul]; rfl); focus decide; focus decide) | refine VInt.fit (by omega) (by omega) ?_ | refine VGd.mk (by omega) ?_ | refine VIdx.at _ rfl (by first | omega | decide | simp) ?_); (conv => whnf))); exact ⟨rfl, rfl⟩))); (conv => whnf))
      refine VGd.mk (by simp; omega) ?_
      (conv => whnf)
      repeat ((first | refine VGd.mk rfl ?_ | refine VGo.at _ rfl ?_ | refine VGo.out rfl ?_ | refine VOne.mk rfl ?_ | refine VIf.tt ?_ | refine VIf.ff ?_ | refine VFz.nil ?_ | refine VFz.nils ?_ | refine VFz.full ?_ | refine VFz.own 0 _ _ _ rfl (by simp) ?_ | refine VFz.own 1 _ _ _ rfl (by simp) ?_ | refine VFz.keep ?_ | refine VObj.mk 0 _ rfl ?_ | refine VObj.mk 1 _ rfl ?_ | refine VObj.mk 2 _ rfl ?_ | refine VObj.mk 3 _ rfl ?_ | refine VTake.mk _ rfl rfl ?_ | (apply VInt.to; focus (simp only [Int.reduceAdd, Int.reduceSub, Int.reduceMul]; rfl); focus decide; focus decide) | refine VInt.fit (by omega) (by omega) ?_ | refine VGd.mk (by omega) ?_ | refine VIdx.at _ rfl (by first | omega | decide | simp) ?_ | (apply VQ.mk; focus ((conv => whnf); (repeat ((first | refine VGd.mk rfl ?_ | refine VGo.at _ rfl ?_ | refine VGo.out rfl ?_ | refine VOne.mk rfl ?_ | refine VIf.tt ?_ | refine VIf.ff ?_ | refine VFz.nil ?_ | refine VFz.nils ?_ | refine VFz.full ?_ | refine VFz.own 0 _ _ _ rfl (by simp) ?_ | refine VFz.own 1 _ _ _ rfl (by simp) ?_ | refine VFz.keep ?_ | refine VObj.mk 0 _ rfl ?_ | refine VObj.mk 1 _ rfl ?_ | refine VObj.mk 2 _ rfl ?_ | refine VObj.mk 3 _ rfl ?_ | refine VTake.mk _ rfl rfl ?_ | (apply VInt.to; focus (simp only [Int.reduceAdd, Int.reduceSub, Int.reduceMul]; rfl); focus decide; focus decide) | refine VInt.fit (by omega) (by omega) ?_ | refine VGd.mk (by omega) ?_ | refine VIdx.at _ rfl (by first | omega | decide | simp) ?_); (conv => whnf))); exact ⟨rfl, rfl⟩))); (conv => whnf))
      rw [Int.tdiv_eq_ediv_of_nonneg (by omega)]
      (conv => whnf)
      repeat ((first | refine VGd.mk rfl ?_ | refine VGo.at _ rfl ?_ | refine VGo.out rfl ?_ | refine VOne.mk rfl ?_ | refine VIf.tt ?_ | refine VIf.ff ?_ | refine VFz.nil ?_ | refine VFz.nils ?_ | refine VFz.full ?_ | refine VFz.own 0 _ _ _ rfl (by simp) ?_ | refine VFz.own 1 _ _ _ rfl (by simp) ?_ | refine VFz.keep ?_ | refine VObj.mk 0 _ rfl ?_ | refine VObj.mk 1 _ rfl ?_ | refine VObj.mk 2 _ rfl ?_ | refine VObj.mk 3 _ rfl ?_ | refine VTake.mk _ rfl rfl ?_ | (apply VInt.to; focus (simp only [Int.reduceAdd, Int.reduceSub, Int.reduceMul]; rfl); focus decide; focus decide) | refine VInt.fit (by omega) (by omega) ?_ | refine VGd.mk (by omega) ?_ | refine VIdx.at _ rfl (by first | omega | decide | simp) ?_ | (apply VQ.mk; focus ((conv => whnf); (repeat ((first | refine VGd.mk rfl ?_ | refine VGo.at _ rfl ?_ | refine VGo.out rfl ?_ | refine VOne.mk rfl ?_ | refine VIf.tt ?_ | refine VIf.ff ?_ | refine VFz.nil ?_ | refine VFz.nils ?_ | refine VFz.full ?_ | refine VFz.own 0 _ _ _ rfl (by simp) ?_ | refine VFz.own 1 _ _ _ rfl (by simp) ?_ | refine VFz.keep ?_ | refine VObj.mk 0 _ rfl ?_ | refine VObj.mk 1 _ rfl ?_ | refine VObj.mk 2 _ rfl ?_ | refine VObj.mk 3 _ rfl ?_ | refine VTake.mk _ rfl rfl ?_ | (apply VInt.to; focus (simp only [Int.reduceAdd, Int.reduceSub, Int.reduceMul]; rfl); focus decide; focus decide) | refine VInt.fit (by omega) (by omega) ?_ | refine VGd.mk (by omega) ?_ | refine VIdx.at _ rfl (by first | omega | decide | simp) ?_); (conv => whnf))); exact ⟨rfl, rfl⟩))); (conv => whnf))
      refine ⟨(u / 10, u % 10 :: ds), ⟨?_, .inr ⟨by simp, ?_⟩⟩, ?_, ?_, .nil⟩
      · dsimp only; omega
      · dsimp only
        have hd : (if u / 10 = 0 then [] else dg (u / 10)) ++ [u % 10] = dg u := by
          by_cases h10 : u < 10
          · rw [dg_lt h10, if_pos (by omega)]; simp; omega
          · rw [dg_ge h10, if_neg (by omega)]
        rw [show u % 10 :: ds = [u % 10] ++ ds from rfl, ← List.append_assoc, hd]
        rcases hI with ⟨h1, h2⟩ | ⟨hx, h1⟩
        · rw [h1, h2]; simp
        · rw [← h1, if_neg (by omega)]
      · dsimp only; rw [if_neg (by simp)]; omega
      · rfl
    · have hu00 : u = 0 := by omega
      (first | refine VIf.dec (fun he => ?_) (fun he => ?_) | refine VIf.ndec (fun he => ?_) (fun he => ?_) | refine VIf.mk (fun he => ?_) (fun he => ?_)) <;> ((conv => whnf); repeat ((first | refine VGd.mk rfl ?_ | refine VGo.at _ rfl ?_ | refine VGo.out rfl ?_ | refine VOne.mk rfl ?_ | refine VIf.tt ?_ | refine VIf.ff ?_ | refine VFz.nil ?_ | refine VFz.nils ?_ | refine VFz.full ?_ | refine VFz.own 0 _ _ _ rfl (by simp) ?_ | refine VFz.own 1 _ _ _ rfl (by simp) ?_ | refine VFz.keep ?_ | refine VObj.mk 0 _ rfl ?_ | refine VObj.mk 1 _ rfl ?_ | refine VObj.mk 2 _ rfl ?_ | refine VObj.mk 3 _ rfl ?_ | refine VTake.mk _ rfl rfl ?_ | (apply VInt.to; focus (simp only [Int.reduceAdd, Int.reduceSub, Int.reduceMul]; rfl); focus decide; focus decide) | refine VInt.fit (by omega) (by omega) ?_ | refine VGd.mk (by omega) ?_ | refine VIdx.at _ rfl (by first | omega | decide | simp) ?_ | (apply VQ.mk; focus ((conv => whnf); (repeat ((first | refine VGd.mk rfl ?_ | refine VGo.at _ rfl ?_ | refine VGo.out rfl ?_ | refine VOne.mk rfl ?_ | refine VIf.tt ?_ | refine VIf.ff ?_ | refine VFz.nil ?_ | refine VFz.nils ?_ | refine VFz.full ?_ | refine VFz.own 0 _ _ _ rfl (by simp) ?_ | refine VFz.own 1 _ _ _ rfl (by simp) ?_ | refine VFz.keep ?_ | refine VObj.mk 0 _ rfl ?_ | refine VObj.mk 1 _ rfl ?_ | refine VObj.mk 2 _ rfl ?_ | refine VObj.mk 3 _ rfl ?_ | refine VTake.mk _ rfl rfl ?_ | (apply VInt.to; focus (simp only [Int.reduceAdd, Int.reduceSub, Int.reduceMul]; rfl); focus decide; focus decide) | refine VInt.fit (by omega) (by omega) ?_ | refine VGd.mk (by omega) ?_ | refine VIdx.at _ rfl (by first | omega | decide | simp) ?_); (conv => whnf))); exact ⟨rfl, rfl⟩))); (conv => whnf)))
      · have hds : ds = [] := by simpa using he
        have hq : 48 + u % 10 < 256 := by omega
        have hbd : ds.length ≤ 20 := by
          rcases hI with ⟨h, _⟩ | ⟨_, h⟩
          · rw [h]; simp
          · have := congrArg List.length h
            rw [List.length_append] at this
            omega
        rw [Int.tmod_eq_emod_of_nonneg (by omega)]
        (conv => whnf)
        repeat ((first | refine VGd.mk rfl ?_ | refine VGo.at _ rfl ?_ | refine VGo.out rfl ?_ | refine VOne.mk rfl ?_ | refine VIf.tt ?_ | refine VIf.ff ?_ | refine VFz.nil ?_ | refine VFz.nils ?_ | refine VFz.full ?_ | refine VFz.own 0 _ _ _ rfl (by simp) ?_ | refine VFz.own 1 _ _ _ rfl (by simp) ?_ | refine VFz.keep ?_ | refine VObj.mk 0 _ rfl ?_ | refine VObj.mk 1 _ rfl ?_ | refine VObj.mk 2 _ rfl ?_ | refine VObj.mk 3 _ rfl ?_ | refine VTake.mk _ rfl rfl ?_ | (apply VInt.to; focus (simp only [Int.reduceAdd, Int.reduceSub, Int.reduceMul]; rfl); focus decide; focus decide) | refine VInt.fit (by omega) (by omega) ?_ | refine VGd.mk (by omega) ?_ | refine VIdx.at _ rfl (by first | omega | decide | simp) ?_ | (apply VQ.mk; focus ((conv => whnf); (repeat ((first | refine VGd.mk rfl ?_ | refine VGo.at _ rfl ?_ | refine VGo.out rfl ?_ | refine VOne.mk rfl ?_ | refine VIf.tt ?_ | refine VIf.ff ?_ | refine VFz.nil ?_ | refine VFz.nils ?_ | refine VFz.full ?_ | refine VFz.own 0 _ _ _ rfl (by simp) ?_ | refine VFz.own 1 _ _ _ rfl (by simp) ?_ | refine VFz.keep ?_ | refine VObj.mk 0 _ rfl ?_ | refine VObj.mk 1 _ rfl ?_ | refine VObj.mk 2 _ rfl ?_ | refine VObj.mk 3 _ rfl ?_ | refine VTake.mk _ rfl rfl ?_ | (apply VInt.to; focus (simp only [Int.reduceAdd, Int.reduceSub, Int.reduceMul]; rfl); focus decide; focus decide) | refine VInt.fit (by omega) (by omega) ?_ | refine VGd.mk (by omega) ?_ | refine VIdx.at _ rfl (by first | omega | decide | simp) ?_); (conv => whnf))); exact ⟨rfl, rfl⟩))); (conv => whnf))
        refine VBytes.mk [dch (u % 10)] (by simp [dch_toNat (show u % 10 ≤ 9 by omega)]) rfl ?_
        (conv => whnf)
        repeat ((first | refine VGd.mk rfl ?_ | refine VGo.at _ rfl ?_ | refine VGo.out rfl ?_ | refine VOne.mk rfl ?_ | refine VIf.tt ?_ | refine VIf.ff ?_ | refine VFz.nil ?_ | refine VFz.nils ?_ | refine VFz.full ?_ | refine VFz.own 0 _ _ _ rfl (by simp) ?_ | refine VFz.own 1 _ _ _ rfl (by simp) ?_ | refine VFz.keep ?_ | refine VObj.mk 0 _ rfl ?_ | refine VObj.mk 1 _ rfl ?_ | refine VObj.mk 2 _ rfl ?_ | refine VObj.mk 3 _ rfl ?_ | refine VTake.mk _ rfl rfl ?_ | (apply VInt.to; focus (simp only [Int.reduceAdd, Int.reduceSub, Int.reduceMul]; rfl); focus decide; focus decide) | refine VInt.fit (by omega) (by omega) ?_ | refine VGd.mk (by omega) ?_ | refine VIdx.at _ rfl (by first | omega | decide | simp) ?_ | (apply VQ.mk; focus ((conv => whnf); (repeat ((first | refine VGd.mk rfl ?_ | refine VGo.at _ rfl ?_ | refine VGo.out rfl ?_ | refine VOne.mk rfl ?_ | refine VIf.tt ?_ | refine VIf.ff ?_ | refine VFz.nil ?_ | refine VFz.nils ?_ | refine VFz.full ?_ | refine VFz.own 0 _ _ _ rfl (by simp) ?_ | refine VFz.own 1 _ _ _ rfl (by simp) ?_ | refine VFz.keep ?_ | refine VObj.mk 0 _ rfl ?_ | refine VObj.mk 1 _ rfl ?_ | refine VObj.mk 2 _ rfl ?_ | refine VObj.mk 3 _ rfl ?_ | refine VTake.mk _ rfl rfl ?_ | (apply VInt.to; focus (simp only [Int.reduceAdd, Int.reduceSub, Int.reduceMul]; rfl); focus decide; focus decide) | refine VInt.fit (by omega) (by omega) ?_ | refine VGd.mk (by omega) ?_ | refine VIdx.at _ rfl (by first | omega | decide | simp) ?_); (conv => whnf))); exact ⟨rfl, rfl⟩))); (conv => whnf))
        refine VGd.mk (by simp; omega) ?_
        (conv => whnf)
        repeat ((first | refine VGd.mk rfl ?_ | refine VGo.at _ rfl ?_ | refine VGo.out rfl ?_ | refine VOne.mk rfl ?_ | refine VIf.tt ?_ | refine VIf.ff ?_ | refine VFz.nil ?_ | refine VFz.nils ?_ | refine VFz.full ?_ | refine VFz.own 0 _ _ _ rfl (by simp) ?_ | refine VFz.own 1 _ _ _ rfl (by simp) ?_ | refine VFz.keep ?_ | refine VObj.mk 0 _ rfl ?_ | refine VObj.mk 1 _ rfl ?_ | refine VObj.mk 2 _ rfl ?_ | refine VObj.mk 3 _ rfl ?_ | refine VTake.mk _ rfl rfl ?_ | (apply VInt.to; focus (simp only [Int.reduceAdd, Int.reduceSub, Int.reduceMul]; rfl); focus decide; focus decide) | refine VInt.fit (by omega) (by omega) ?_ | refine VGd.mk (by omega) ?_ | refine VIdx.at _ rfl (by first | omega | decide | simp) ?_ | (apply VQ.mk; focus ((conv => whnf); (repeat ((first | refine VGd.mk rfl ?_ | refine VGo.at _ rfl ?_ | refine VGo.out rfl ?_ | refine VOne.mk rfl ?_ | refine VIf.tt ?_ | refine VIf.ff ?_ | refine VFz.nil ?_ | refine VFz.nils ?_ | refine VFz.full ?_ | refine VFz.own 0 _ _ _ rfl (by simp) ?_ | refine VFz.own 1 _ _ _ rfl (by simp) ?_ | refine VFz.keep ?_ | refine VObj.mk 0 _ rfl ?_ | refine VObj.mk 1 _ rfl ?_ | refine VObj.mk 2 _ rfl ?_ | refine VObj.mk 3 _ rfl ?_ | refine VTake.mk _ rfl rfl ?_ | (apply VInt.to; focus (simp only [Int.reduceAdd, Int.reduceSub, Int.reduceMul]; rfl); focus decide; focus decide) | refine VInt.fit (by omega) (by omega) ?_ | refine VGd.mk (by omega) ?_ | refine VIdx.at _ rfl (by first | omega | decide | simp) ?_); (conv => whnf))); exact ⟨rfl, rfl⟩))); (conv => whnf))
        rw [Int.tdiv_eq_ediv_of_nonneg (by omega)]
        (conv => whnf)
        repeat ((first | refine VGd.mk rfl ?_ | refine VGo.at _ rfl ?_ | refine VGo.out rfl ?_ | refine VOne.mk rfl ?_ | refine VIf.tt ?_ | refine VIf.ff ?_ | refine VFz.nil ?_ | refine VFz.nils ?_ | refine VFz.full ?_ | refine VFz.own 0 _ _ _ rfl (by simp) ?_ | refine VFz.own 1 _ _ _ rfl (by simp) ?_ | refine VFz.keep ?_ | refine VObj.mk 0 _ rfl ?_ | refine VObj.mk 1 _ rfl ?_ | refine VObj.mk 2 _ rfl ?_ | refine VObj.mk 3 _ rfl ?_ | refine VTake.mk _ rfl rfl ?_ | (apply VInt.to; focus (simp only [Int.reduceAdd, Int.reduceSub, Int.reduceMul]; rfl); focus decide; focus decide) | refine VInt.fit (by omega) (by omega) ?_ | refine VGd.mk (by omega) ?_ | refine VIdx.at _ rfl (by first | omega | decide | simp) ?_ | (apply VQ.mk; focus ((conv => whnf); (repeat ((first | refine VGd.mk rfl ?_ | refine VGo.at _ rfl ?_ | refine VGo.out rfl ?_ | refine VOne.mk rfl ?_ | refine VIf.tt ?_ | refine VIf.ff ?_ | refine VFz.nil ?_ | refine VFz.nils ?_ | refine VFz.full ?_ | refine VFz.own 0 _ _ _ rfl (by simp) ?_ | refine VFz.own 1 _ _ _ rfl (by simp) ?_ | refine VFz.keep ?_ | refine VObj.mk 0 _ rfl ?_ | refine VObj.mk 1 _ rfl ?_ | refine VObj.mk 2 _ rfl ?_ | refine VObj.mk 3 _ rfl ?_ | refine VTake.mk _ rfl rfl ?_ | (apply VInt.to; focus (simp only [Int.reduceAdd, Int.reduceSub, Int.reduceMul]; rfl); focus decide; focus decide) | refine VInt.fit (by omega) (by omega) ?_ | refine VGd.mk (by omega) ?_ | refine VIdx.at _ rfl (by first | omega | decide | simp) ?_); (conv => whnf))); exact ⟨rfl, rfl⟩))); (conv => whnf))
        refine ⟨(u / 10, u % 10 :: ds), ⟨?_, .inr ⟨by simp, ?_⟩⟩, ?_, ?_, .nil⟩
        · dsimp only; omega
        · dsimp only
          have hd : (if u / 10 = 0 then [] else dg (u / 10)) ++ [u % 10] = dg u := by
            by_cases h10 : u < 10
            · rw [dg_lt h10, if_pos (by omega)]; simp; omega
            · rw [dg_ge h10, if_neg (by omega)]
          rw [show u % 10 :: ds = [u % 10] ++ ds from rfl, ← List.append_assoc, hd]
          rcases hI with ⟨h1, h2⟩ | ⟨hx, h1⟩
          · rw [h1, h2]; simp
          · exact absurd hds hx
        · dsimp only; rw [if_neg (by simp)]; rw [if_pos hds]; omega
        · rfl
      · have hds : ds ≠ [] := by intro h; exact he (by rw [h]; rfl)
        have hfin : ds = dg u0 := by
          rcases hI with ⟨h1, _⟩ | ⟨_, h1⟩
          · exact absurd h1 hds
          · rw [← h1, if_pos hu00]; rfl
        subst hfin
        refine VRet.mk [] .nil ?_; simp [decimalR]
end Go.Proofs.YtfhkpcdccideeaaDoor

namespace Go.Proofs.YtfhkpcdccideeaaDoor
open Go Go.Av
/-- A digit in a script, as bytes. -/
def encD (z : Int) (d : Nat) : List UInt8 := if z = 48 then [dch d] else if z = 1632 then [217, UInt8.ofNat (160 + d)] else [239, 188, UInt8.ofNat (144 + d)]
def encL (z : Int) (D : List Nat) : List UInt8 := (D.map (encD z)).flatten
def val : List Nat → Nat → Nat
  | [], a => a
  | d :: r, a => val r (10 * a + d)
theorem val_ge : ∀ (D : List Nat) (a : Nat), a ≤ val D a
  | [], a => Nat.le_refl a
  | d :: r, a => Nat.le_trans (by omega) (val_ge r (10 * a + d))
def Script (z : Int) : Prop := z = 48 ∨ z = 1632 ∨ z = 65296
theorem dec_encD {z : Int} (hz : Script z) {d : Nat} (hd : d ≤ 9) (r : List UInt8) : dec (encD z d ++ r) = (z.toNat + d, (encD z d).length) := by
  rcases hz with rfl | rfl | rfl
  · rw [dec_N]
    simp [encD, Lib.decodeN, dch_toNat hd]
    omega
  · have h : (UInt8.ofNat (160 + d)).toNat = 160 + d := ofNat_toNat (by omega)
    have e : dec (encD 1632 d ++ r) = Lib.decodeN (r.length + 2) 217 (UInt8.ofNat (160 + d)).toNat ((r.getD 0 0).toNat) ((r.getD 1 0).toNat) := by rw [dec_N]; rfl
    rw [e, h]
    unfold Lib.decodeN
    rw [if_neg (by omega), if_pos (by omega), if_pos (by omega)]
    apply Prod.ext
    · show _ = 1632 + d; simp only; omega
    · rfl
  · have h : (UInt8.ofNat (144 + d)).toNat = 144 + d := ofNat_toNat (by omega)
    have e : dec (encD 65296 d ++ r) = Lib.decodeN (r.length + 3) 239 188 (UInt8.ofNat (144 + d)).toNat ((r.getD 0 0).toNat) := by rw [dec_N]; rfl
    rw [e, h]
    unfold Lib.decodeN
    rw [if_neg (by omega), if_neg (by omega), if_pos (by omega), if_pos (by omega)]
    apply Prod.ext
    · show _ = 65296 + d; simp only; omega
    · rfl
theorem encD_ne (z : Int) (d : Nat) (r : List UInt8) : encD z d ++ r ≠ [] := by
  unfold encD; repeat' split
  all_goals simp
theorem chars_encD {z : Int} (hz : Script z) {d : Nat} (hd : d ≤ 9) (r : List UInt8) : chars (encD z d ++ r) = (z.toNat + d) :: chars r := by
  rw [chars_cons (encD_ne z d r), dec_encD hz hd r]
  simp
theorem chars_encL {z : Int} (hz : Script z) : ∀ (D : List Nat), (∀ d ∈ D, d ≤ 9) → ∀ (r : List UInt8), chars (encL z D ++ r) = D.map (fun d => z.toNat + d) ++ chars r
  | [], _, r => by simp [encL]
  | d :: D, h, r => by
    have ih := chars_encL hz D (fun x hx => h x (List.mem_cons_of_mem _ hx)) r
    have h1 := chars_encD hz (h d (List.mem_cons_self ..)) (encL z D ++ r)
    have : encL z (d :: D) ++ r = encD z d ++ (encL z D ++ r) := by simp [encL]
    rw [this, h1, ih]; simp
theorem digR_script {z : Int} (hz : Script z) {d : Nat} (hd : d ≤ 9) : digR ((z.toNat + d : Nat) : Int) = some ((d : Int), z) := by
  rcases hz with rfl | rfl | rfl
  · simp only [digR]; rw [if_pos (by omega)]; simp; omega
  · simp only [digR]; rw [if_neg (by omega), if_pos (by omega)]; simp; omega
  · simp only [digR]; rw [if_neg (by omega), if_neg (by omega), if_pos (by omega)]; simp; omega
/-- What the loop knows: while all is small enough, the number. -/
theorem digLoop_script {z : Int} (hz : Script z) (rest : List Nat) : ∀ (D : List Nat), (∀ d ∈ D, d ≤ 9) → ∀ (n : Int) (ok : Bool) (z0 : Int) (a : Nat), (z0 = -1 ∨ z0 = z) → (0 ≤ n ∧ n ≤ 1152921504606846976) → (ok = true → n = a) → (ok = false → 1152921504606846976 < a) →
    ∃ n' ok', digLoop (D.map (fun d => z.toNat + d) ++ rest) n ok z0 = digLoop rest n' ok' (if D = [] then z0 else z) ∧ (0 ≤ n' ∧ n' ≤ 1152921504606846976) ∧ (ok' = true → n' = val D a) ∧ (ok' = false → 1152921504606846976 < val D a)
  | [], _, n, ok, z0, a, _, hn, h1, h2 => ⟨n, ok, by simp, hn, h1, h2⟩
  | d :: D, h, n, ok, z0, a, h0, hn, h1, h2 => by
    have hd := h d (List.mem_cons_self ..)
    have hzn : 0 ≤ z := by rcases hz with rfl | rfl | rfl <;> omega
    rw [List.map_cons, List.cons_append, digLoop, digR_script hz hd]
    dsimp only
    rw [if_neg (by rcases h0 with rfl | rfl <;> omega)]
    by_cases hgt : n > (1152921504606846976 - (d : Int)) / 10
    · rw [if_pos hgt]
      obtain ⟨n', ok', e1, e2, e3, e4⟩ := digLoop_script hz rest D (fun x hx => h x (List.mem_cons_of_mem _ hx)) d false z (10 * a + d) (.inr rfl) (by omega) (by simp) (by
        intro _
        cases ok with
        | true => have := h1 rfl; omega
        | false => have := h2 rfl; omega)
      exact ⟨n', ok', by rw [e1]; simp, e2, e3, e4⟩
    · rw [if_neg hgt]
      obtain ⟨n', ok', e1, e2, e3, e4⟩ := digLoop_script hz rest D (fun x hx => h x (List.mem_cons_of_mem _ hx)) (10 * n + d) ok z (10 * a + d) (.inr rfl) (by omega) (by
        intro ho; have := h1 ho; omega) (by intro ho; have := h2 ho; omega)
      exact ⟨n', ok', by rw [e1]; simp, e2, e3, e4⟩
def sgn (m : Bool) : List UInt8 := if m then [45] else []
theorem minusB_true (x : List UInt8) : minusB (45 :: x) = true := by simp [minusB, begins]
theorem minusB_false {z : Int} (hz : Script z) {d : Nat} (hd : d ≤ 9) (r : List UInt8) : minusB (encD z d ++ r) = false := by
  rcases hz with rfl | rfl | rfl
  · have h : ∀ c : UInt8, c.toNat < 48 ∨ 57 < c.toNat → dch d ≠ c := fun c hc e => by
      have := dch_toNat hd
      rw [e] at this
      omega
    simp [minusB, begins, encD]
    exact ⟨h 45 (by decide), fun _ e => absurd e (h 226 (by decide))⟩
  · simp [minusB, begins, encD]
  · simp [minusB, begins, encD]
theorem digitsR_sgn {z : Int} (hz : Script z) (m : Bool) {D : List Nat} (hne : D ≠ []) (hD : ∀ d ∈ D, d ≤ 9) (t : List UInt8) : digitsR (sgn m ++ (encL z D ++ t)) =
    match digLoop (D.map (fun d => z.toNat + d) ++ chars t) 0 true (-1) with
    | none => (0, false, false)
    | some (n, ok, z) => (if m then -n else n, decide (0 ≤ z), ok && decide ((if m then -n else n) ≤ 1152921504606846975)) := by
  have hc := chars_encL hz D hD t
  cases m with
  | true =>
    have hdec : (dec (45 :: (encL z D ++ t))).2 = 1 := by rw [dec_N]; simp [Lib.decodeN]
    have : sgn true ++ (encL z D ++ t) = 45 :: (encL z D ++ t) := rfl
    rw [this]
    unfold digitsR
    rw [minusB_true, if_pos rfl, hdec]
    show (match digLoop (chars (encL z D ++ t)) 0 true (-1) with | none => _ | some (n, ok, z) => _) = _
    rw [hc]
  | false =>
    obtain ⟨d, D', rfl⟩ : ∃ d D', D = d :: D' := by cases D with | nil => exact absurd rfl hne | cons d D' => exact ⟨d, D', rfl⟩
    have hm : minusB (encL z (d :: D') ++ t) = false := by
      have : encL z (d :: D') ++ t = encD z d ++ (encL z D' ++ t) := by simp [encL]
      rw [this]; exact minusB_false hz (hD d (List.mem_cons_self ..)) _
    have : sgn false ++ (encL z (d :: D') ++ t) = encL z (d :: D') ++ t := rfl
    rw [this]
    unfold digitsR
    rw [hm]
    show (match digLoop (chars (encL z (d :: D') ++ t)) 0 true (-1) with | none => _ | some (n, ok, z) => _) = _
    rw [hc]
theorem script_nonneg {z : Int} (hz : Script z) : 0 ≤ z := by rcases hz with rfl | rfl | rfl <;> omega
/-- Number, of digits of one script. -/
def numOf (m : Bool) (v : Nat) : Int × Int := if v ≤ (if m then 1152921504606846976 else 1152921504606846975) then (if m then -(v : Int) else v, 0) else (0, 11)
theorem number_script {z : Int} (hz : Script z) (m : Bool) {D : List Nat} (hne : D ≠ []) (hD : ∀ d ∈ D, d ≤ 9) :
    (digitsR (sgn m ++ encL z D)).2.1 = true ∧ numberR (sgn m ++ encL z D) = numOf m (val D 0) := by
  have h := digitsR_sgn hz m hne hD []
  rw [List.append_nil] at h
  obtain ⟨n', ok', e1, e2, e3, e4⟩ := digLoop_script hz (chars []) D hD 0 true (-1) 0 (.inl rfl) (by omega) (by simp) (by simp)
  rw [e1, if_neg hne] at h
  have hch : chars [] = [] := rfl
  rw [hch, digLoop] at h
  dsimp only at h
  have hz0 := script_nonneg hz
  refine ⟨by rw [h]; simp [hz0], ?_⟩
  unfold numberR numOf
  rw [h]
  dsimp only
  rw [if_pos (by simp [hz0])]
  cases ok' with
  | true =>
    have hn := e3 rfl
    subst hn
    cases m with
    | true => simp; omega
    | false => simp; split <;> split <;> first | rfl | (exfalso; omega) | simp; try omega
  | false =>
    have hn := e4 rfl
    cases m with
    | true => simp; omega
    | false => simp; omega
theorem number_mixed (m : Bool) {D : List Nat} (hne : D ≠ []) (hD : ∀ d ∈ D, d ≤ 9) : numberR (sgn m ++ (encL 1632 D ++ [48])) = (0, 9) := by
  have hz : Script 1632 := .inr (.inl rfl)
  have h := digitsR_sgn hz m hne hD [48]
  obtain ⟨n', ok', e1, e2, e3, e4⟩ := digLoop_script hz (chars [48]) D hD 0 true (-1) 0 (.inl rfl) (by omega) (by simp) (by simp)
  rw [e1, if_neg hne] at h
  have hch : chars [48] = [48] := by decide +kernel
  rw [hch, digLoop] at h
  have h48 : digR ((48 : Nat) : Int) = some (0, 48) := by decide
  rw [h48] at h
  dsimp only at h
  rw [if_pos (by omega)] at h
  unfold numberR
  rw [h]
  rfl
end Go.Proofs.YtfhkpcdccideeaaDoor
