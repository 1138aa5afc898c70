/- Bytes replaced by texts: the loop of a replacer. Conditions: the text has at most 4096 bytes. Bytes replaced by texts: the walk. Conditions: the text has at most 4096 bytes. What stands for a text: the walk. Conditions: none. Lex: Tokens. Lex: awake. The reference's Chars and Bad. LexQuotes: the walk. Conditions: the text has at most 1048576 bytes. The second form's bound, and how much a reading holds. Conditions: none. -/
import Derived.Test.YthmklkggehgijaaDoorX7
import Derived.Test.YthmklkggehgijaaDoorX5
import Derived.Test.YthmklkggehgijaaDoorX4
import Derived.Test.YthmklkggehgijaaDoorRows
set_option linter.all false
set_option maxRecDepth 20000
namespace Go.Proofs.YthmklkggehgijaaDoor
open Go Go.Av
theorem fn_Count (l : List UInt8) (c : UInt8) : Av.Fn Tryd.prog 98 [.str l, .str [c]] (.int .i64 (Lib.countByte l c)) := by
  refine Fn.of_calls (fn := Tryd.f98) (by kernel_rfl) rfl (by kernel_rfl) ?_
  intro W w g us hl hr hb
  obtain ⟨u1, _, rfl, ⟨h1, _⟩, u2, _, rfl, ⟨h2, _⟩, h3⟩ := hr
  have h1 : u1 = _ := h1; have h2 : u2 = _ := h2; have h3 : _ = [] := h3
  subst h1; subst h2; subst h3
  refine (Tryd.strings_Count_one ⟨⟨l⟩⟩ c w).mono fun e w' ⟨h1, h2⟩ => ?_
  subst h2
  exact ⟨_, h1, rfl, RowKit.Below.refl _ _⟩
/-- How many bytes are replaced. -/
def nq : List UInt8 → Nat
  | [] => 0
  | c :: s => (if c = 10 ∨ c = 34 ∨ c = 92 then 1 else 0) + nq s
theorem qL_append : ∀ (a b : List UInt8), qL (a ++ b) = qL a ++ qL b
  | [], _ => rfl
  | c :: a, b => by rw [List.cons_append, qL, qL, qL_append a b, List.append_assoc]
theorem nq_append : ∀ (a b : List UInt8), nq (a ++ b) = nq a + nq b
  | [], _ => by simp [nq]
  | c :: a, b => by rw [List.cons_append, nq, nq, nq_append a b]; omega
theorem qL_length : ∀ (s : List UInt8), (qL s).length = s.length + nq s
  | [] => rfl
  | c :: s => by
    rw [qL, nq, List.length_append, List.length_cons, qL_length s]
    by_cases h1 : c = 10
    · subst h1; simp [qb]; omega
    by_cases h2 : c = 34
    · subst h2; simp [qb]; omega
    by_cases h3 : c = 92
    · subst h3; simp [qb]; omega
    · simp [qb, h1, h2, h3]; omega
theorem qL_none : ∀ (s : List UInt8), nq s = 0 → qL s = s
  | [], _ => rfl
  | c :: s, h => by
    rw [nq] at h
    have h1 : ¬ (c = 10 ∨ c = 34 ∨ c = 92) := by intro e; rw [if_pos e] at h; omega
    rw [qL, qL_none s (by omega)]
    simp only [not_or] at h1
    simp [qb, h1.1, h1.2.1, h1.2.2]
theorem nq_le : ∀ (s : List UInt8), nq s ≤ s.length
  | [] => by simp [nq]
  | c :: s => by
    have := nq_le s
    rw [nq, List.length_cons]; split <;> omega
theorem nq_count : ∀ (s : List UInt8), nq s = s.count 34 + s.count 10 + s.count 92
  | [] => rfl
  | c :: s => by
    rw [nq, nq_count s]
    simp only [List.count_cons]
    by_cases h1 : c = 10
    · subst h1; simp; omega
    by_cases h2 : c = 34
    · subst h2; simp; omega
    by_cases h3 : c = 92
    · subst h3; simp; omega
    · simp [h1, h2, h3]
theorem take_one {s : List UInt8} {i : Nat} (h : i < s.length) : s.take (i + 1) = s.take i ++ [s.getD i 0] := by
  rw [List.take_succ_eq_append_getElem h]; simp [h]
theorem qL_step {s : List UInt8} {i : Nat} (h : i < s.length) : qL (s.take (i + 1)) = qL (s.take i) ++ qb (s.getD i 0) := by
  rw [take_one h, qL_append]; simp [qL]
theorem nq_step {s : List UInt8} {i : Nat} (h : i < s.length) : nq (s.take (i + 1)) = nq (s.take i) + (if s.getD i 0 = 10 ∨ s.getD i 0 = 34 ∨ s.getD i 0 = 92 then 1 else 0) := by
  rw [take_one h, nq_append]; simp [nq]
theorem rep_none (e1 e2 e3 t k : Nat) (hk : k < 256) (h1 : k ≠ 10) (h2 : k ≠ 34) (h3 : k ≠ 92) : (repC e1 e2 e3 t)[k]? = some .nils := by
  unfold repC
  rw [List.getElem?_set_ne (by omega), List.getElem?_set_ne (by omega), List.getElem?_set_ne (by omega), List.getElem?_set_ne (by omega)]
  rw [List.getElem?_replicate, if_pos (by omega)]
theorem rep_34 (e1 e2 e3 t : Nat) : (repC e1 e2 e3 t)[34]? = some (.own e1 2) := rfl
theorem rep_10 (e1 e2 e3 t : Nat) : (repC e1 e2 e3 t)[10]? = some (.own e2 2) := rfl
theorem rep_92 (e1 e2 e3 t : Nat) : (repC e1 e2 e3 t)[92]? = some (.own e3 2) := rfl
theorem rep_t (e1 e2 e3 t : Nat) : (repC e1 e2 e3 t)[256]? = some (.own t 3) := rfl
theorem countByte_eq (l : List UInt8) (c : UInt8) : Lib.countByte l c = l.count c := rfl
theorem qfit (s : List UInt8) (k : Nat) : (qL (s.take k)).length ≤ s.length + nq s := by
  rw [qL_length]
  have h := nq_append (s.take k) (s.drop k)
  rw [List.take_append_drop] at h
  have := List.length_take_le k s
  have := List.length_take (i := k) (l := s)
  omega
def bufC (A : List UInt8) (n : Nat) : List AV := bytesV A ++ List.replicate (n - A.length) (.int .u8 0)
theorem bufC_length (A : List UInt8) (n : Nat) (h : A.length ≤ n) : (bufC A n).length = n := by simp [bufC, bytesV]; omega
theorem buf_put (A X : List UInt8) (n : Nat) (h : A.length + X.length ≤ n) : (bufC A n).take A.length ++ bytesV X ++ (bufC A n).drop (A.length + X.length) = bufC (A ++ X) n := by
  have hl : (bytesV A).length = A.length := by simp [bytesV]
  unfold bufC
  rw [← hl, List.take_left, ← List.drop_drop, List.drop_left]
  simp only [List.drop_replicate]
  rw [show bytesV (A ++ X) = bytesV A ++ bytesV X by simp [bytesV], hl, List.length_append, Nat.sub_sub]
theorem buf_set (A : List UInt8) (c : UInt8) (n : Nat) (h : A.length < n) : (bufC A n).set A.length (.int .u8 c.toNat) = bufC (A ++ [c]) n := by
  have := buf_put A [c] n (by simp only [List.length_singleton]; omega)
  rw [← this, List.set_eq_take_append_cons_drop, if_pos (by rw [bufC_length A n (by omega)]; exact h)]
  simp [bytesV]
theorem buf_full (A : List UInt8) (n : Nat) (h : A.length = n) : (bufC A n).take n = A.map fun c => .int .u8 c.toNat := by
  subst h
  unfold bufC
  have hl : (bytesV A).length = A.length := by simp [bytesV]
  rw [← hl, List.take_left]; rfl
end Go.Proofs.YthmklkggehgijaaDoor

namespace Go.Proofs.YthmklkggehgijaaDoor
open Go Go.Av
def cs (a b c : Nat) : Nat → Nat
  | 0 => 0
  | 1 => a
  | 2 => a + b
  | _ => a + b + c




set_option maxHeartbeats 4000000 in
theorem a_repl (d e1 e2 e3 t : Nat) (s : List UInt8) (hs : s.length ≤ 4096) : ACalls Tryd.prog 96 [.ptr d 0, .str s] (repS d e1 e2 e3 t) fun out st' =>
    out = .ret (.str (qL s)) ∧ st' = [] := by
  have hnq := nq_le s
  unfold repS
  refine ACalls.of_W tb_ok (fn := Tryd.f96) (n := 122) (by kernel_rfl) rfl (by kernel_rfl) rfl rfl (by simp) (go ?_)
  have hcnt := nq_count s
  have f1 := fn_Count s 34
  have f2 := fn_Count s 10
  have f3 := fn_Count s 92
  rw [countByte_eq] at f1 f2 f3
  generalize s.count 34 = c1 at f1 hcnt
  generalize s.count 10 = c2 at f2 hcnt
  generalize s.count 92 = c3 at f3 hcnt
  refine fork (fun hbig => go ?_) (fun hbig => go ?_)
  · refine VLoop.mk [32, 5, 6] Nat (fun i => [.int .i64 i, .int .i64 (s.length + cs c1 c2 c3 i : Nat), .bool (decide (cs c1 c2 c3 i ≠ 0))]) (fun _ => repS d e1 e2 e3 t) (fun i => i ≤ 3) (fun i => 3 - i) 0 ?_ ?_
    · exact ⟨by omega, rfl, VSel.refl _⟩
    intro i hi
    obtain rfl | rfl | rfl | rfl : i = 0 ∨ i = 1 ∨ i = 2 ∨ i = 3 := by omega
    · refine go ?_
      refine Fn.use (f1) (go ?_)
      refine fork (fun h1 => go ?_) (fun h1 => go ?_)
      · refine VQ.mk (.int .i64 ((s.length + cs c1 c2 c3 1 : Nat) : Int)) (by refine go ?_; refine VInt.to ((s.length + cs c1 c2 c3 1 : Nat) : Int) (by simp only [cs]; omega) (by simp only [cs]; omega) (by simp only [cs]; omega) (go ?_); exact ⟨rfl, rfl⟩) (go ?_)
        refine ⟨1, by omega, by omega, ?_, VSel.refl _⟩
        have hb : decide (cs c1 c2 c3 1 ≠ 0) = true := by rw [decide_eq_true_eq]; simp only [cs]; omega
        rw [hb]
        rfl
      · refine ⟨1, by omega, by omega, ?_, VSel.refl _⟩
        have e : c1 = 0 := by omega
        subst e
        rfl
    · refine go ?_
      refine Fn.use (f2) (go ?_)
      refine fork (fun h1 => go ?_) (fun h1 => go ?_)
      · refine VQ.mk (.int .i64 ((s.length + cs c1 c2 c3 2 : Nat) : Int)) (by refine go ?_; refine VInt.to ((s.length + cs c1 c2 c3 2 : Nat) : Int) (by simp only [cs]; omega) (by simp only [cs]; omega) (by simp only [cs]; omega) (go ?_); exact ⟨rfl, rfl⟩) (go ?_)
        refine ⟨2, by omega, by omega, ?_, VSel.refl _⟩
        have hb : decide (cs c1 c2 c3 2 ≠ 0) = true := by rw [decide_eq_true_eq]; simp only [cs]; omega
        rw [hb]
        rfl
      · refine ⟨2, by omega, by omega, ?_, VSel.refl _⟩
        have e : c2 = 0 := by omega
        subst e
        rfl
    · refine go ?_
      refine Fn.use (f3) (go ?_)
      refine fork (fun h1 => go ?_) (fun h1 => go ?_)
      · refine VQ.mk (.int .i64 ((s.length + cs c1 c2 c3 3 : Nat) : Int)) (by refine go ?_; refine VInt.to ((s.length + cs c1 c2 c3 3 : Nat) : Int) (by simp only [cs]; omega) (by simp only [cs]; omega) (by simp only [cs]; omega) (go ?_); exact ⟨rfl, rfl⟩) (go ?_)
        refine ⟨3, by omega, by omega, ?_, VSel.refl _⟩
        have hb : decide (cs c1 c2 c3 3 ≠ 0) = true := by rw [decide_eq_true_eq]; simp only [cs]; omega
        rw [hb]
        rfl
      · refine ⟨3, by omega, by omega, ?_, VSel.refl _⟩
        have e : c3 = 0 := by omega
        subst e
        rfl
    · refine go ?_
      have hcs : cs c1 c2 c3 3 = nq s := by simp only [cs]; omega
      rw [hcs]
      refine fork (fun hz => go ?_) (fun hz => go ?_)
      · refine VRet.mk [] .nil ?_
        have h0 : nq s = 0 := by simpa using hz
        rw [qL_none s h0]
        exact ⟨rfl, rfl⟩
      · refine VGd.mk (by dsimp only; omega) (go ?_)
        refine VAll.mk (fun bb => go ?_)
        refine VLoop.mk [13, 14] Nat (fun i => [.int .i64 ((qL (s.take i)).length : Nat), .int .i64 i]) (fun i => (bb, .arr 1 (bufC (qL (s.take i)) (s.length + nq s)) 0) :: repS d e1 e2 e3 t) (fun i => i ≤ s.length) (fun i => s.length - i) 0 ?_ ?_
        · exact ⟨by omega, rfl, VSel.refl _⟩
        intro i hi
        have hc6 : (s.getD i 0).toNat < 256 := UInt8.toNat_lt _
        have hfit := qfit s i
        have hfit2 := qfit s (i + 1)
        have hbl := bufC_length (qL (s.take i)) (s.length + nq s) hfit
        refine go ?_
        refine fork (fun hlt => go ?_) (fun hlt => go ?_)
        · have hlt : i < s.length := by omega
          have hst := qL_step hlt
          have hns := nq_step hlt
          rw [hst, List.length_append] at hfit2
          generalize s.getD i 0 = c at hc6 hst hns hfit2
          rcases Decidable.em (c = 10) with h1 | h1
          · subst h1
            rw [show qb 10 = [92, 110] from rfl] at hst hfit2
            simp only [List.length_cons, List.length_nil] at hfit2
            refine VNth.mk _ (rep_10 e1 e2 e3 t) (go ?_)
            refine VDraw.chain [10, 11, 12] (go ?_)
            refine VQ.mk (.sub bb (qL (s.take i)).length ((((s.length + nq s : Nat) : Int)).toNat - (qL (s.take i)).length)) (by (conv => whnf); refine VIdx.at (qL (s.take i)).length rfl (by omega) ?_; (conv => whnf); refine VCut.sub (VGd.mk (by omega) ?_); exact ⟨rfl, rfl⟩) (go ?_)
            refine VGd.mk ⟨rfl, rfl, by decide, by omega⟩ (go ?_)
            refine ⟨i + 1, by omega, by omega, ?_, ?_⟩
            · rw [hst, List.length_append]; rfl
            · rw [hst]
              have hb := buf_put (qL (s.take i)) [92, 110] (s.length + nq s) (by simp only [List.length_cons, List.length_nil]; omega)
              show VSel _ ((bb, AObj.arr 1 ((bufC (qL (s.take i)) (s.length + nq s)).take (qL (s.take i)).length ++ bytesV [92, 110] ++ (bufC (qL (s.take i)) (s.length + nq s)).drop ((qL (s.take i)).length + ([92, 110] : List UInt8).length)) 0) :: repS d e1 e2 e3 t)
              rw [hb]
              exact VSel.refl _
          rcases Decidable.em (c = 34) with h2 | h2
          · subst h2
            rw [show qb 34 = [92, 34] from rfl] at hst hfit2
            simp only [List.length_cons, List.length_nil] at hfit2
            refine VNth.mk _ (rep_34 e1 e2 e3 t) (go ?_)
            refine VDraw.chain [10, 11, 12] (go ?_)
            refine VQ.mk (.sub bb (qL (s.take i)).length ((((s.length + nq s : Nat) : Int)).toNat - (qL (s.take i)).length)) (by (conv => whnf); refine VIdx.at (qL (s.take i)).length rfl (by omega) ?_; (conv => whnf); refine VCut.sub (VGd.mk (by omega) ?_); exact ⟨rfl, rfl⟩) (go ?_)
            refine VGd.mk ⟨rfl, rfl, by decide, by omega⟩ (go ?_)
            refine ⟨i + 1, by omega, by omega, ?_, ?_⟩
            · rw [hst, List.length_append]; rfl
            · rw [hst]
              have hb := buf_put (qL (s.take i)) [92, 34] (s.length + nq s) (by simp only [List.length_cons, List.length_nil]; omega)
              show VSel _ ((bb, AObj.arr 1 ((bufC (qL (s.take i)) (s.length + nq s)).take (qL (s.take i)).length ++ bytesV [92, 34] ++ (bufC (qL (s.take i)) (s.length + nq s)).drop ((qL (s.take i)).length + ([92, 34] : List UInt8).length)) 0) :: repS d e1 e2 e3 t)
              rw [hb]
              exact VSel.refl _
          rcases Decidable.em (c = 92) with h3 | h3
          · subst h3
            rw [show qb 92 = [92, 92] from rfl] at hst hfit2
            simp only [List.length_cons, List.length_nil] at hfit2
            refine VNth.mk _ (rep_92 e1 e2 e3 t) (go ?_)
            refine VDraw.chain [10, 11, 12] (go ?_)
            refine VQ.mk (.sub bb (qL (s.take i)).length ((((s.length + nq s : Nat) : Int)).toNat - (qL (s.take i)).length)) (by (conv => whnf); refine VIdx.at (qL (s.take i)).length rfl (by omega) ?_; (conv => whnf); refine VCut.sub (VGd.mk (by omega) ?_); exact ⟨rfl, rfl⟩) (go ?_)
            refine VGd.mk ⟨rfl, rfl, by decide, by omega⟩ (go ?_)
            refine ⟨i + 1, by omega, by omega, ?_, ?_⟩
            · rw [hst, List.length_append]; rfl
            · rw [hst]
              have hb := buf_put (qL (s.take i)) [92, 92] (s.length + nq s) (by simp only [List.length_cons, List.length_nil]; omega)
              show VSel _ ((bb, AObj.arr 1 ((bufC (qL (s.take i)) (s.length + nq s)).take (qL (s.take i)).length ++ bytesV [92, 92] ++ (bufC (qL (s.take i)) (s.length + nq s)).drop ((qL (s.take i)).length + ([92, 92] : List UInt8).length)) 0) :: repS d e1 e2 e3 t)
              rw [hb]
              exact VSel.refl _
          have hn : ∀ k : UInt8, c ≠ k → c.toNat ≠ k.toNat := fun k hk e => hk (UInt8.toNat_inj.1 e)
          have hr : (repC e1 e2 e3 t)[0 + c.toNat]? = some .nils := by rw [Nat.zero_add]; exact rep_none e1 e2 e3 t c.toNat hc6 (hn 10 h1) (hn 34 h2) (hn 92 h3)
          have hq1 : qb c = [c] := by unfold qb; rw [if_neg h1, if_neg h2, if_neg h3]
          rw [hq1] at hst hfit2
          simp only [List.length_cons, List.length_nil] at hfit2
          refine VNth.mk _ hr (go ?_)
          refine VGd.mk ⟨Nat.zero_le _, by rw [hbl]; show (qL (s.take i)).length < _; omega⟩ (go ?_)
          refine ⟨i + 1, by omega, by omega, ?_, ?_⟩
          · rw [hst, List.length_append]; rfl
          · rw [hst]
            have hb := buf_set (qL (s.take i)) c (s.length + nq s) (by omega)
            show VSel _ ((bb, AObj.arr 1 ((bufC (qL (s.take i)) (s.length + nq s)).set (qL (s.take i)).length (.int .u8 c.toNat)) 0) :: repS d e1 e2 e3 t)
            rw [hb]
            exact VSel.refl _
        · obtain rfl : i = s.length := by omega
          refine VBytes.mk (qL s) (by rw [List.take_length]; exact buf_full (qL s) (s.length + nq s) (qL_length s)) (qL_length s) (go ?_)
          refine VRet.mk [] .nil ?_
          exact ⟨rfl, rfl⟩
  · refine VLoop.mk [10, 5, 6] Nat (fun i => [.int .i64 i, .int .i64 (s.length + nq (s.take i) : Nat), .bool (decide (nq (s.take i) ≠ 0))]) (fun _ => repS d e1 e2 e3 t) (fun i => i ≤ s.length) (fun i => s.length - i) 0 ?_ ?_
    · exact ⟨by omega, rfl, VSel.refl _⟩
    intro i hi
    have hc6 : (s.getD i 0).toNat < 256 := UInt8.toNat_lt _
    have hle := nq_le (s.take i)
    have hle2 := List.length_take (i := i) (l := s)
    refine go ?_
    refine fork (fun hlt => go ?_) (fun hlt => go ?_)
    · have hlt : i < s.length := by omega
      have hns := nq_step hlt
      generalize s.getD i 0 = c at hc6 hns
      rcases Decidable.em (c = 10) with h1 | h1
      · subst h1
        rw [if_pos (by decide)] at hns
        refine VNth.mk _ (rep_10 e1 e2 e3 t) (go ?_)
        refine ⟨i + 1, by omega, by omega, ?_, VSel.refl _⟩
        have hb : decide (nq (s.take (i + 1)) ≠ 0) = true := by rw [decide_eq_true_eq]; omega
        have e : ((s.length + nq (s.take i) : Nat) : Int) + (((2 : Nat) : Int) - 1) = ((s.length + (nq (s.take i) + 1) : Nat) : Int) := by omega
        rw [hb, hns]
        exact congrArg (fun x : Int => [AV.int .i64 ((i : Int) + 1), AV.int .i64 x, AV.bool true]) e
      rcases Decidable.em (c = 34) with h2 | h2
      · subst h2
        rw [if_pos (by decide)] at hns
        refine VNth.mk _ (rep_34 e1 e2 e3 t) (go ?_)
        refine ⟨i + 1, by omega, by omega, ?_, VSel.refl _⟩
        have hb : decide (nq (s.take (i + 1)) ≠ 0) = true := by rw [decide_eq_true_eq]; omega
        have e : ((s.length + nq (s.take i) : Nat) : Int) + (((2 : Nat) : Int) - 1) = ((s.length + (nq (s.take i) + 1) : Nat) : Int) := by omega
        rw [hb, hns]
        exact congrArg (fun x : Int => [AV.int .i64 ((i : Int) + 1), AV.int .i64 x, AV.bool true]) e
      rcases Decidable.em (c = 92) with h3 | h3
      · subst h3
        rw [if_pos (by decide)] at hns
        refine VNth.mk _ (rep_92 e1 e2 e3 t) (go ?_)
        refine ⟨i + 1, by omega, by omega, ?_, VSel.refl _⟩
        have hb : decide (nq (s.take (i + 1)) ≠ 0) = true := by rw [decide_eq_true_eq]; omega
        have e : ((s.length + nq (s.take i) : Nat) : Int) + (((2 : Nat) : Int) - 1) = ((s.length + (nq (s.take i) + 1) : Nat) : Int) := by omega
        rw [hb, hns]
        exact congrArg (fun x : Int => [AV.int .i64 ((i : Int) + 1), AV.int .i64 x, AV.bool true]) e
      have hn : ∀ k : UInt8, c ≠ k → c.toNat ≠ k.toNat := fun k hk e => hk (UInt8.toNat_inj.1 e)
      have hr : (repC e1 e2 e3 t)[0 + c.toNat]? = some .nils := by rw [Nat.zero_add]; exact rep_none e1 e2 e3 t c.toNat hc6 (hn 10 h1) (hn 34 h2) (hn 92 h3)
      refine VNth.mk _ hr (go ?_)
      rw [if_neg (by simp [h1, h2, h3])] at hns
      refine ⟨i + 1, by omega, by omega, ?_, VSel.refl _⟩
      rw [hns]
      rfl
    · obtain rfl : i = s.length := by omega
      rw [List.take_length]
      refine fork (fun hz => go ?_) (fun hz => go ?_)
      · refine VRet.mk [] .nil ?_
        have h0 : nq s = 0 := by simpa using hz
        rw [qL_none s h0]
        exact ⟨rfl, rfl⟩
      · refine VGd.mk (by dsimp only; omega) (go ?_)
        refine VAll.mk (fun bb => go ?_)
        refine VLoop.mk [13, 14] Nat (fun i => [.int .i64 ((qL (s.take i)).length : Nat), .int .i64 i]) (fun i => (bb, .arr 1 (bufC (qL (s.take i)) (s.length + nq s)) 0) :: repS d e1 e2 e3 t) (fun i => i ≤ s.length) (fun i => s.length - i) 0 ?_ ?_
        · exact ⟨by omega, rfl, VSel.refl _⟩
        intro i hi
        have hc6 : (s.getD i 0).toNat < 256 := UInt8.toNat_lt _
        have hfit := qfit s i
        have hfit2 := qfit s (i + 1)
        have hbl := bufC_length (qL (s.take i)) (s.length + nq s) hfit
        refine go ?_
        refine fork (fun hlt => go ?_) (fun hlt => go ?_)
        · have hlt : i < s.length := by omega
          have hst := qL_step hlt
          have hns := nq_step hlt
          rw [hst, List.length_append] at hfit2
          generalize s.getD i 0 = c at hc6 hst hns hfit2
          rcases Decidable.em (c = 10) with h1 | h1
          · subst h1
            rw [show qb 10 = [92, 110] from rfl] at hst hfit2
            simp only [List.length_cons, List.length_nil] at hfit2
            refine VNth.mk _ (rep_10 e1 e2 e3 t) (go ?_)
            refine VDraw.chain [10, 11, 12] (go ?_)
            refine VQ.mk (.sub bb (qL (s.take i)).length ((((s.length + nq s : Nat) : Int)).toNat - (qL (s.take i)).length)) (by (conv => whnf); refine VIdx.at (qL (s.take i)).length rfl (by omega) ?_; (conv => whnf); refine VCut.sub (VGd.mk (by omega) ?_); exact ⟨rfl, rfl⟩) (go ?_)
            refine VGd.mk ⟨rfl, rfl, by decide, by omega⟩ (go ?_)
            refine ⟨i + 1, by omega, by omega, ?_, ?_⟩
            · rw [hst, List.length_append]; rfl
            · rw [hst]
              have hb := buf_put (qL (s.take i)) [92, 110] (s.length + nq s) (by simp only [List.length_cons, List.length_nil]; omega)
              show VSel _ ((bb, AObj.arr 1 ((bufC (qL (s.take i)) (s.length + nq s)).take (qL (s.take i)).length ++ bytesV [92, 110] ++ (bufC (qL (s.take i)) (s.length + nq s)).drop ((qL (s.take i)).length + ([92, 110] : List UInt8).length)) 0) :: repS d e1 e2 e3 t)
              rw [hb]
              exact VSel.refl _
          rcases Decidable.em (c = 34) with h2 | h2
          · subst h2
            rw [show qb 34 = [92, 34] from rfl] at hst hfit2
            simp only [List.length_cons, List.length_nil] at hfit2
            refine VNth.mk _ (rep_34 e1 e2 e3 t) (go ?_)
            refine VDraw.chain [10, 11, 12] (go ?_)
            refine VQ.mk (.sub bb (qL (s.take i)).length ((((s.length + nq s : Nat) : Int)).toNat - (qL (s.take i)).length)) (by (conv => whnf); refine VIdx.at (qL (s.take i)).length rfl (by omega) ?_; (conv => whnf); refine VCut.sub (VGd.mk (by omega) ?_); exact ⟨rfl, rfl⟩) (go ?_)
            refine VGd.mk ⟨rfl, rfl, by decide, by omega⟩ (go ?_)
            refine ⟨i + 1, by omega, by omega, ?_, ?_⟩
            · rw [hst, List.length_append]; rfl
            · rw [hst]
              have hb := buf_put (qL (s.take i)) [92, 34] (s.length + nq s) (by simp only [List.length_cons, List.length_nil]; omega)
              show VSel _ ((bb, AObj.arr 1 ((bufC (qL (s.take i)) (s.length + nq s)).take (qL (s.take i)).length ++ bytesV [92, 34] ++ (bufC (qL (s.take i)) (s.length + nq s)).drop ((qL (s.take i)).length + ([92, 34] : List UInt8).length)) 0) :: repS d e1 e2 e3 t)
              rw [hb]
              exact VSel.refl _
          rcases Decidable.em (c = 92) with h3 | h3
          · subst h3
            rw [show qb 92 = [92, 92] from rfl] at hst hfit2
            simp only [List.length_cons, List.length_nil] at hfit2
            refine VNth.mk _ (rep_92 e1 e2 e3 t) (go ?_)
            refine VDraw.chain [10, 11, 12] (go ?_)
            refine VQ.mk (.sub bb (qL (s.take i)).length ((((s.length + nq s : Nat) : Int)).toNat - (qL (s.take i)).length)) (by (conv => whnf); refine VIdx.at (qL (s.take i)).length rfl (by omega) ?_; (conv => whnf); refine VCut.sub (VGd.mk (by omega) ?_); exact ⟨rfl, rfl⟩) (go ?_)
            refine VGd.mk ⟨rfl, rfl, by decide, by omega⟩ (go ?_)
            refine ⟨i + 1, by omega, by omega, ?_, ?_⟩
            · rw [hst, List.length_append]; rfl
            · rw [hst]
              have hb := buf_put (qL (s.take i)) [92, 92] (s.length + nq s) (by simp only [List.length_cons, List.length_nil]; omega)
              show VSel _ ((bb, AObj.arr 1 ((bufC (qL (s.take i)) (s.length + nq s)).take (qL (s.take i)).length ++ bytesV [92, 92] ++ (bufC (qL (s.take i)) (s.length + nq s)).drop ((qL (s.take i)).length + ([92, 92] : List UInt8).length)) 0) :: repS d e1 e2 e3 t)
              rw [hb]
              exact VSel.refl _
          have hn : ∀ k : UInt8, c ≠ k → c.toNat ≠ k.toNat := fun k hk e => hk (UInt8.toNat_inj.1 e)
          have hr : (repC e1 e2 e3 t)[0 + c.toNat]? = some .nils := by rw [Nat.zero_add]; exact rep_none e1 e2 e3 t c.toNat hc6 (hn 10 h1) (hn 34 h2) (hn 92 h3)
          have hq1 : qb c = [c] := by unfold qb; rw [if_neg h1, if_neg h2, if_neg h3]
          rw [hq1] at hst hfit2
          simp only [List.length_cons, List.length_nil] at hfit2
          refine VNth.mk _ hr (go ?_)
          refine VGd.mk ⟨Nat.zero_le _, by rw [hbl]; show (qL (s.take i)).length < _; omega⟩ (go ?_)
          refine ⟨i + 1, by omega, by omega, ?_, ?_⟩
          · rw [hst, List.length_append]; rfl
          · rw [hst]
            have hb := buf_set (qL (s.take i)) c (s.length + nq s) (by omega)
            show VSel _ ((bb, AObj.arr 1 ((bufC (qL (s.take i)) (s.length + nq s)).set (qL (s.take i)).length (.int .u8 c.toNat)) 0) :: repS d e1 e2 e3 t)
            rw [hb]
            exact VSel.refl _
        · obtain rfl : i = s.length := by omega
          refine VBytes.mk (qL s) (by rw [List.take_length]; exact buf_full (qL s) (s.length + nq s) (qL_length s)) (qL_length s) (go ?_)
          refine VRet.mk [] .nil ?_
          exact ⟨rfl, rfl⟩
end Go.Proofs.YthmklkggehgijaaDoor

namespace Go.Proofs.YthmklkggehgijaaDoor
open Go Go.Av
theorem a_once (b c : Nat) (x0 x1 x2 x3 : AV) : ACalls Tryd.prog 21 [.ptr b 0] [(b, .box [x0, x1, x2, x3, .own c 6]), (c, .arr 1 oldC 0)] fun out st' =>
    out = .ret (.tup []) ∧ ∃ d e1 e2 e3 t, st' = (b, .box [x0, x1, x2, .iface 93 (.ptr d 0), .nils]) :: repS d e1 e2 e3 t := by
  refine ACalls.of_W tb_ok (fn := Tryd.f21) (n := 10) (by kernel_rfl) rfl (by kernel_rfl) rfl rfl (by simp) (go ?_)
  refine ACalls.use (R := []) (a_build b c x0 x1 x2 x3) (by exact List.Perm.refl _) ?_
  rintro out s' ⟨d, e1, e2, e3, t, rfl, rfl⟩
  unfold repS
  refine go ?_
  refine VObj.mk 5 _ rfl (go ?_)
  refine VObj.mk 5 _ rfl (go ?_)
  exact VRet.mk _ (.cons 5 rfl (.cons 0 rfl (.cons 0 rfl (.cons 0 rfl (.cons 0 rfl (.cons 0 rfl .nil)))))) ⟨rfl, d, e1, e2, e3, t, rfl⟩
theorem a_Replace (b c : Nat) (s : List UInt8) (hs : s.length ≤ 4096) : ACalls Tryd.prog 11 [.ptr b 0, .str s] [(b, .box [.int .u32 0, .int .i32 0, .int .u32 0, .nili, .own c 6]), (c, .arr 1 oldC 0)] fun out st' =>
    out = .ret (.str (qL s)) ∧ st' = [] := by
  have hdo := a_Do b .nili (.own c 6) [(c, .arr 1 oldC 0)] (fun r o E => o = .nils ∧ ∃ d e1 e2 e3 t, r = .iface 93 (.ptr d 0) ∧ E = repS d e1 e2 e3 t)
    ((a_once b c _ _ _ _).mono fun out st' ⟨h1, d, e1, e2, e3, t, h2⟩ => ⟨h1, _, _, _, h2, rfl, d, e1, e2, e3, t, rfl, rfl⟩)
  refine ACalls.of_W tb_ok (fn := Tryd.f11) (n := 17) (by kernel_rfl) rfl (by kernel_rfl) rfl rfl (by simp) (go ?_)
  refine ACalls.use (R := []) hdo (by exact List.Perm.refl _) ?_
  rintro out s' ⟨rfl, r', o', E', rfl, rfl, d, e1, e2, e3, t, rfl, rfl⟩
  refine go ?_
  refine VMeth.mk 96 (by intro u args w; kernel_rfl) (go ?_)
  refine ACalls.use (R := [(b, .box [.int .u32 1, .int .i32 0, .int .u32 0, .iface 93 (.ptr d 0), .nils])]) (a_repl d e1 e2 e3 t s hs) (by simpa using List.perm_append_singleton _ _) ?_
  rintro out s' ⟨rfl, rfl⟩
  refine go ?_
  refine VRet.mk [] .nil ?_
  exact ⟨rfl, rfl⟩
def quotedR (s : List UInt8) : List UInt8 × Int := if 0 ≤ faultV s then ([], 8) else if 4096 < s.length then ([], 11) else (quoteR s, 0)
theorem f_Quoted (s : List UInt8) : Av.Fn Tryd.prog 5 [.str s] (.tup [.str (quotedR s).1, .int .i64 (quotedR s).2]) := by
  have ff := f_fault s
  refine ACalls.of_W tb_ok (fn := Tryd.f5) (n := 18) (by kernel_rfl) rfl (by kernel_rfl) rfl rfl (by simp) (go ?_)
  refine Fn.use (ff) (go ?_)
  unfold quotedR
  refine fork (fun h1 => go ?_) (fun h1 => go ?_)
  · refine VRet.mk [] .nil ?_
    rw [if_pos h1]; exact ⟨rfl, rfl⟩
  · rw [if_neg h1]
    refine fork (fun h2 => go ?_) (fun h2 => go ?_)
    · refine VRet.mk [] .nil ?_
      rw [if_pos (by omega)]; exact ⟨rfl, rfl⟩
    · rw [if_neg (by omega)]
      have hq := qL_le s
      have h2 : s.length ≤ 4096 := by omega
      refine ACalls.use (R := []) a_New (by exact List.Perm.refl _) ?_
      rintro out s' ⟨b, c, rfl, rfl⟩
      refine go ?_
      refine ACalls.use (R := []) (a_Replace b c s h2) (by exact List.Perm.refl _) ?_
      rintro out s' ⟨rfl, rfl⟩
      refine go ?_
      refine VGd.mk (by simp; omega) (go ?_)
      refine VGd.mk (by simp; omega) (go ?_)
      refine VRet.mk [] .nil ?_
      exact ⟨rfl, rfl⟩
end Go.Proofs.YthmklkggehgijaaDoor

namespace Go.Proofs.YthmklkggehgijaaDoor
open Go Go.Av
structure TokI where
  o : Option Nat
  p : Nat
  out : List Tok
theorem f18_nat (r : Nat) (hr : r ≤ 1114111) : Av.Fn Tryd.prog 14 [.int .i32 r] (.bool (blankB r)) := f18_of r (by omega)
theorem fn_end (l : List UInt8) : ∃ k : Int, Av.Fn Tryd.prog 15 [.str l, .fn (.func 14) [] []] (.int .i64 k) ∧ ((k = wlen l ∧ 0 ≤ k) ∨ (k = -1 ∧ wlen l = l.length)) := by
  have h := fn_IndexFunc 14 (fun r => blankB r) f18_nat l
  by_cases ha : (runes l).any (fun x => blankB x.1) = true
  · rw [if_pos ha] at h
    exact ⟨_, h, .inl ⟨rfl, by omega⟩⟩
  · rw [if_neg ha] at h
    exact ⟨_, h, .inr ⟨rfl, by unfold wlen; rw [spanR_none (by simpa using ha), sum_runes]⟩⟩
theorem take_toksC (l : List Tok) : (toksC l).take (l.length * 4) = toksC l := List.take_of_length_le (by simp)






set_option maxRecDepth 20000 in
set_option maxHeartbeats 1600000 in
theorem toks_of (s : List UInt8) (hs : s.length ≤ 65536) (hf : faultR s = none) : Av.Fn Tryd.prog 7 [.str s] (.tup [.fz (toksC (toks s.length s []).1) (toks s.length s []).1.length false, .int .i64 (toks s.length s []).2.1, .int .i64 (toks s.length s []).2.2]) := by
  have ff := f_fault s
  rw [show faultV s = -1 by simp [faultV, hf]] at ff
  obtain ⟨R, hR⟩ : ∃ R, R = toks s.length s [] := ⟨_, rfl⟩
  rw [← hR]
  refine ACalls.of_W tb_ok (fn := Tryd.f7) (n := 113) (by kernel_rfl) rfl (by kernel_rfl) rfl rfl (by simp) (go ?_)
  refine VIf.no (decide_eq_false (by omega)) (go ?_)
  refine Fn.use (ff) (go ?_)
  refine VLoop.mk [6, 7] TokI (fun i => [accV i.o i.out.length, .int .i64 i.p]) (fun i => accS i.o 4 (toksC i.out))
    (fun i => i.p ≤ s.length ∧ i.out.length ≤ 4096 ∧ (i.o = none → i.out = []) ∧ toks s.length (s.drop i.p) i.out = R) (fun i => s.length - i.p) ⟨none, 0, []⟩ ?_ ?_
  · exact ⟨⟨by simp, by simp, by simp, hR.symm⟩, rfl, .nil⟩
  rintro ⟨o, p, out⟩ ⟨hp, hol, ho, hI⟩
  dsimp only at hp hol ho hI ⊢
  cases o with
  | none =>
    have hacc := ho rfl
    subst hacc
    refine go ?_
    refine fork (fun hlt => go ?_) (fun hlt => go ?_)
    · have hlt : p < s.length := by omega
      have htr := trimL_le (s.drop p)
      obtain ⟨p', hp', hp2, hr⟩ : ∃ p', p ≤ p' ∧ p' ≤ s.length ∧ trimL (s.drop p) = s.drop p' := by
        have := spanR_le (fun r => !blankB r) (s.drop p)
        rw [List.length_drop] at this
        exact ⟨p + spanR (fun r => !blankB r) (runes (s.drop p)), by omega, by omega, by unfold trimL; rw [List.drop_drop]⟩
      have ft := fn_TrimLeftFunc 14 (fun r => blankB r) f18_nat (s.drop p)
      rw [show (s.drop p).drop (spanR (fun r => !blankB r) (runes (s.drop p))) = s.drop p' from hr] at ft
      refine Fn.use (ft) (go ?_)
      refine VInt.to (p' : Int) (by simp; omega) (by omega) (by omega) (go ?_)
      obtain ⟨k, fe, hk⟩ := fn_end (s.drop p')
      refine Fn.use (fe) (go ?_)
      obtain ⟨w, hw⟩ : ∃ w, w = wlen (s.drop p') := ⟨_, rfl⟩
      have hwl := wlen_le (s.drop p')
      rw [← hw] at hk hwl
      rw [List.length_drop] at hwl
      have hpp : s.length - (s.drop p').length = p' := by simp; omega
      rw [toks_step, if_neg (by simp; omega), hr] at hI
      unfold tokAt at hI
      rw [← hw, hpp] at hI
      rcases hk with ⟨hk, hk0⟩ | ⟨hk, hk1⟩
      · subst hk
        refine VIf.no (decide_eq_false (by omega)) (go ?_)
        refine fork (fun h1 => go ?_) (fun h1 => go ?_)
        · rw [if_pos h1] at hI
          have hb := indexByte_lt (s.drop p') 10
          rw [List.length_drop] at hb
          have fi := fn_IndexByte (s.drop p') 10
          rw [show (10 : Int).toNat.toUInt8 = (10 : UInt8) from rfl] at fi
          obtain ⟨m, hmm⟩ : ∃ m, m = Lib.indexByte (s.drop p') 10 := ⟨_, rfl⟩
          rw [← hmm] at fi hb hI
          refine Fn.use (fi) (go ?_)
          refine fork (fun hm => go ?_) (fun hm => go ?_)
          · rw [if_pos hm] at hI
            refine VRet.mk [] .nil ?_
            rw [← hI]; exact ⟨rfl, rfl⟩
          · rw [if_neg hm] at hI
            dsimp only at hI
            have hsk := (tokAt_less (N := s.length) (.inl (show tokAt s.length (s.drop p') = .skip ((s.drop p').drop m.toNat) by unfold tokAt; rw [← hw, if_pos h1, ← hmm, if_neg hm]))).1
            rw [List.drop_drop] at hI hsk
            rw [List.length_drop, List.length_drop] at hsk
            refine ⟨⟨none, p' + m.toNat, []⟩, ⟨?_, ?_, ?_, ?_⟩, ?_, ?_, ?_⟩
            · dsimp only; omega
            · exact hol
            · exact ho
            · exact hI
            · dsimp only; omega
            · simp [accV]; omega
            · exact .nil
        · rw [if_neg h1] at hI
          refine fork (fun h2 => go ?_) (fun h2 => go ?_)
          · rw [h2] at hI
            refine VRet.mk [] .nil ?_
            rw [← hI]; exact ⟨rfl, rfl⟩
          · obtain ⟨c, q, hcq⟩ : ∃ c q, (s.drop p').take w = c :: q := by
              cases hx : (s.drop p').take w with
              | nil => exact absurd hx h2
              | cons c q => exact ⟨c, q, rfl⟩
            have hwp : 0 < w := by
              rcases Nat.eq_zero_or_pos w with h0 | h0
              · rw [h0] at hcq; simp at hcq
              · exact h0
            have hc0 : ((s.drop p').take w).getD 0 0 = c := by rw [hcq]; rfl
            refine VAll.mk (fun bt => go ?_)
            rw [hc0]
            have f17 := f17_of ((s.drop p').take w)
            have f11 := f11_of ((s.drop p').take w) (by simp; omega)
            have hI2 := hI
            rw [hcq] at hI2
            dsimp only at hI2
            rw [← hcq] at hI2
            replace hI := hI2
            clear hI2
            refine fork (fun h34 => go ?_) (fun h34 => go ?_)
            · have h34 : c = 34 := by rw [← UInt8.toNat_inj]; exact Int.ofNat_inj.1 h34
              rw [if_pos h34, List.drop_drop] at hI
              have fx := f_text s p' (by omega) hs
              have hnx := textL_next p' (s.drop (p' + 1)) [] (p' + 1)
              rw [show textR s p' = textL p' (s.drop (p' + 1)) [] (p' + 1) from rfl] at fx
              generalize textL p' (s.drop (p' + 1)) [] (p' + 1) = x at fx hI hnx
              obtain ⟨x, nx, e⟩ := x
              dsimp only at fx hI hnx
              refine Fn.use (fx) (go ?_)
              refine fork (fun he => go ?_) (fun he => go ?_)
              · have he : e = 0 := he
                have hnx := hnx he
                subst he
                rw [if_pos rfl] at hI
                dsimp only at hI
                obtain ⟨j, rfl⟩ : ∃ j : Nat, nx = j := ⟨nx.toNat, by omega⟩
                rw [List.drop_drop, show p' + ((j : Int) - (p' : Int)).toNat = j by omega] at hI
                rw [List.length_drop] at hnx
                refine VIf.no (by simp) (go ?_)
                refine VAll.mk (fun b2 => go ?_)
                refine ⟨⟨some b2, j, [⟨3, x, 0, (p' : Nat)⟩]⟩, ⟨?_, ?_, ?_, ?_⟩, ?_, ?_, ?_⟩
                · dsimp only; omega
                · simp
                · intro h; cases h
                · exact hI
                · dsimp only; omega
                · simp [accV]; try omega
                · exact .cons 0 rfl .nil
              · have he : ¬ e = 0 := he
                rw [if_neg he] at hI
                refine VIf.yes (by simpa using he) (go ?_)
                refine VRet.mk [] .nil ?_
                rw [← hI]; exact ⟨rfl, rfl⟩
            · have h34 : ¬ c = 34 := by rw [← UInt8.toNat_inj]; exact fun e => h34 (Int.ofNat_inj.2 e)
              rw [if_neg h34, List.drop_drop] at hI
              generalize digitsR ((s.drop p').take w) = d at f17 hI
              obtain ⟨n, num, ok⟩ := d
              dsimp only at f17 hI
              refine Fn.use (f17) (go ?_)
              cases num with
              | true =>
                rw [if_pos rfl] at hI
                cases ok with
                | true =>
                  rw [if_pos rfl] at hI
                  dsimp only at hI
                  refine go ?_
                  skip
                  refine VAll.mk (fun b2 => go ?_)
                  refine ⟨⟨some b2, p' + w, [⟨2, [], n, (p' : Nat)⟩]⟩, ⟨?_, ?_, ?_, ?_⟩, ?_, ?_, ?_⟩
                  · dsimp only; omega
                  · simp
                  · intro h; cases h
                  · exact hI
                  · dsimp only; omega
                  · simp [accV]; try omega
                  · exact .cons 0 rfl .nil
                | false =>
                  rw [if_neg (by simp)] at hI
                  refine go ?_
                  refine VRet.mk [] .nil ?_
                  rw [← hI]; exact ⟨rfl, rfl⟩
              | false =>
                rw [if_neg (by simp)] at hI
                refine go ?_
                generalize nameR ((s.drop p').take w) = nm at f11 hI
                refine Fn.use (f11) (go ?_)
                cases nm with
                | true =>
                  rw [if_pos rfl] at hI
                  dsimp only at hI
                  refine go ?_
                  skip
                  refine VAll.mk (fun b2 => go ?_)
                  refine ⟨⟨some b2, p' + w, [⟨1, (s.drop p').take w, 0, (p' : Nat)⟩]⟩, ⟨?_, ?_, ?_, ?_⟩, ?_, ?_, ?_⟩
                  · dsimp only; omega
                  · simp
                  · intro h; cases h
                  · exact hI
                  · dsimp only; omega
                  · simp [accV]; try omega
                  · exact .cons 0 rfl .nil
                | false =>
                  rw [if_neg (by simp)] at hI
                  refine go ?_
                  refine VRet.mk [] .nil ?_
                  rw [← hI]; exact ⟨rfl, rfl⟩
      · subst hk
        refine go ?_
        rw [← hk1]
        refine fork (fun h1 => go ?_) (fun h1 => go ?_)
        · rw [if_pos h1] at hI
          have hb := indexByte_lt (s.drop p') 10
          rw [List.length_drop] at hb
          have fi := fn_IndexByte (s.drop p') 10
          rw [show (10 : Int).toNat.toUInt8 = (10 : UInt8) from rfl] at fi
          obtain ⟨m, hmm⟩ : ∃ m, m = Lib.indexByte (s.drop p') 10 := ⟨_, rfl⟩
          rw [← hmm] at fi hb hI
          refine Fn.use (fi) (go ?_)
          refine fork (fun hm => go ?_) (fun hm => go ?_)
          · rw [if_pos hm] at hI
            refine VRet.mk [] .nil ?_
            rw [← hI]; exact ⟨rfl, rfl⟩
          · rw [if_neg hm] at hI
            dsimp only at hI
            have hsk := (tokAt_less (N := s.length) (.inl (show tokAt s.length (s.drop p') = .skip ((s.drop p').drop m.toNat) by unfold tokAt; rw [← hw, if_pos h1, ← hmm, if_neg hm]))).1
            rw [List.drop_drop] at hI hsk
            rw [List.length_drop, List.length_drop] at hsk
            refine ⟨⟨none, p' + m.toNat, []⟩, ⟨?_, ?_, ?_, ?_⟩, ?_, ?_, ?_⟩
            · dsimp only; omega
            · exact hol
            · exact ho
            · exact hI
            · dsimp only; omega
            · simp [accV]; omega
            · exact .nil
        · rw [if_neg h1] at hI
          refine fork (fun h2 => go ?_) (fun h2 => go ?_)
          · rw [h2] at hI
            refine VRet.mk [] .nil ?_
            rw [← hI]; exact ⟨rfl, rfl⟩
          · obtain ⟨c, q, hcq⟩ : ∃ c q, (s.drop p').take w = c :: q := by
              cases hx : (s.drop p').take w with
              | nil => exact absurd hx h2
              | cons c q => exact ⟨c, q, rfl⟩
            have hwp : 0 < w := by
              rcases Nat.eq_zero_or_pos w with h0 | h0
              · rw [h0] at hcq; simp at hcq
              · exact h0
            have hc0 : ((s.drop p').take w).getD 0 0 = c := by rw [hcq]; rfl
            refine VAll.mk (fun bt => go ?_)
            rw [hc0]
            have f17 := f17_of ((s.drop p').take w)
            have f11 := f11_of ((s.drop p').take w) (by simp; omega)
            have hI2 := hI
            rw [hcq] at hI2
            dsimp only at hI2
            rw [← hcq] at hI2
            replace hI := hI2
            clear hI2
            refine fork (fun h34 => go ?_) (fun h34 => go ?_)
            · have h34 : c = 34 := by rw [← UInt8.toNat_inj]; exact Int.ofNat_inj.1 h34
              rw [if_pos h34, List.drop_drop] at hI
              have fx := f_text s p' (by omega) hs
              have hnx := textL_next p' (s.drop (p' + 1)) [] (p' + 1)
              rw [show textR s p' = textL p' (s.drop (p' + 1)) [] (p' + 1) from rfl] at fx
              generalize textL p' (s.drop (p' + 1)) [] (p' + 1) = x at fx hI hnx
              obtain ⟨x, nx, e⟩ := x
              dsimp only at fx hI hnx
              refine Fn.use (fx) (go ?_)
              refine fork (fun he => go ?_) (fun he => go ?_)
              · have he : e = 0 := he
                have hnx := hnx he
                subst he
                rw [if_pos rfl] at hI
                dsimp only at hI
                obtain ⟨j, rfl⟩ : ∃ j : Nat, nx = j := ⟨nx.toNat, by omega⟩
                rw [List.drop_drop, show p' + ((j : Int) - (p' : Int)).toNat = j by omega] at hI
                rw [List.length_drop] at hnx
                refine VIf.no (by simp) (go ?_)
                refine VAll.mk (fun b2 => go ?_)
                refine ⟨⟨some b2, j, [⟨3, x, 0, (p' : Nat)⟩]⟩, ⟨?_, ?_, ?_, ?_⟩, ?_, ?_, ?_⟩
                · dsimp only; omega
                · simp
                · intro h; cases h
                · exact hI
                · dsimp only; omega
                · simp [accV]; try omega
                · exact .cons 0 rfl .nil
              · have he : ¬ e = 0 := he
                rw [if_neg he] at hI
                refine VIf.yes (by simpa using he) (go ?_)
                refine VRet.mk [] .nil ?_
                rw [← hI]; exact ⟨rfl, rfl⟩
            · have h34 : ¬ c = 34 := by rw [← UInt8.toNat_inj]; exact fun e => h34 (Int.ofNat_inj.2 e)
              rw [if_neg h34, List.drop_drop] at hI
              generalize digitsR ((s.drop p').take w) = d at f17 hI
              obtain ⟨n, num, ok⟩ := d
              dsimp only at f17 hI
              refine Fn.use (f17) (go ?_)
              cases num with
              | true =>
                rw [if_pos rfl] at hI
                cases ok with
                | true =>
                  rw [if_pos rfl] at hI
                  dsimp only at hI
                  refine go ?_
                  skip
                  refine VAll.mk (fun b2 => go ?_)
                  refine ⟨⟨some b2, p' + w, [⟨2, [], n, (p' : Nat)⟩]⟩, ⟨?_, ?_, ?_, ?_⟩, ?_, ?_, ?_⟩
                  · dsimp only; omega
                  · simp
                  · intro h; cases h
                  · exact hI
                  · dsimp only; omega
                  · simp [accV]; try omega
                  · exact .cons 0 rfl .nil
                | false =>
                  rw [if_neg (by simp)] at hI
                  refine go ?_
                  refine VRet.mk [] .nil ?_
                  rw [← hI]; exact ⟨rfl, rfl⟩
              | false =>
                rw [if_neg (by simp)] at hI
                refine go ?_
                generalize nameR ((s.drop p').take w) = nm at f11 hI
                refine Fn.use (f11) (go ?_)
                cases nm with
                | true =>
                  rw [if_pos rfl] at hI
                  dsimp only at hI
                  refine go ?_
                  skip
                  refine VAll.mk (fun b2 => go ?_)
                  refine ⟨⟨some b2, p' + w, [⟨1, (s.drop p').take w, 0, (p' : Nat)⟩]⟩, ⟨?_, ?_, ?_, ?_⟩, ?_, ?_, ?_⟩
                  · dsimp only; omega
                  · simp
                  · intro h; cases h
                  · exact hI
                  · dsimp only; omega
                  · simp [accV]; try omega
                  · exact .cons 0 rfl .nil
                | false =>
                  rw [if_neg (by simp)] at hI
                  refine go ?_
                  refine VRet.mk [] .nil ?_
                  rw [← hI]; exact ⟨rfl, rfl⟩
    · rw [List.drop_eq_nil_of_le (by omega), toks_step, if_pos rfl] at hI
      refine VRet.mk [] .nil ?_
      rw [← hI]; exact ⟨rfl, rfl⟩
  | some b =>
    refine go ?_
    refine fork (fun hlt => go ?_) (fun hlt => go ?_)
    · have hlt : p < s.length := by omega
      have htr := trimL_le (s.drop p)
      obtain ⟨p', hp', hp2, hr⟩ : ∃ p', p ≤ p' ∧ p' ≤ s.length ∧ trimL (s.drop p) = s.drop p' := by
        have := spanR_le (fun r => !blankB r) (s.drop p)
        rw [List.length_drop] at this
        exact ⟨p + spanR (fun r => !blankB r) (runes (s.drop p)), by omega, by omega, by unfold trimL; rw [List.drop_drop]⟩
      have ft := fn_TrimLeftFunc 14 (fun r => blankB r) f18_nat (s.drop p)
      rw [show (s.drop p).drop (spanR (fun r => !blankB r) (runes (s.drop p))) = s.drop p' from hr] at ft
      refine Fn.use (ft) (go ?_)
      refine VInt.to (p' : Int) (by simp; omega) (by omega) (by omega) (go ?_)
      obtain ⟨k, fe, hk⟩ := fn_end (s.drop p')
      refine Fn.use (fe) (go ?_)
      obtain ⟨w, hw⟩ : ∃ w, w = wlen (s.drop p') := ⟨_, rfl⟩
      have hwl := wlen_le (s.drop p')
      rw [← hw] at hk hwl
      rw [List.length_drop] at hwl
      have hpp : s.length - (s.drop p').length = p' := by simp; omega
      rw [toks_step, if_neg (by simp; omega), hr] at hI
      unfold tokAt at hI
      rw [← hw, hpp] at hI
      rcases hk with ⟨hk, hk0⟩ | ⟨hk, hk1⟩
      · subst hk
        refine VIf.no (decide_eq_false (by omega)) (go ?_)
        refine fork (fun h1 => go ?_) (fun h1 => go ?_)
        · rw [if_pos h1] at hI
          have hb := indexByte_lt (s.drop p') 10
          rw [List.length_drop] at hb
          have fi := fn_IndexByte (s.drop p') 10
          rw [show (10 : Int).toNat.toUInt8 = (10 : UInt8) from rfl] at fi
          obtain ⟨m, hmm⟩ : ∃ m, m = Lib.indexByte (s.drop p') 10 := ⟨_, rfl⟩
          rw [← hmm] at fi hb hI
          refine Fn.use (fi) (go ?_)
          refine fork (fun hm => go ?_) (fun hm => go ?_)
          · rw [if_pos hm] at hI
            refine VRet.mk [] .nil ?_
            rw [← hI]; dsimp only; rw [take_toksC]; exact ⟨rfl, rfl⟩
          · rw [if_neg hm] at hI
            dsimp only at hI
            have hsk := (tokAt_less (N := s.length) (.inl (show tokAt s.length (s.drop p') = .skip ((s.drop p').drop m.toNat) by unfold tokAt; rw [← hw, if_pos h1, ← hmm, if_neg hm]))).1
            rw [List.drop_drop] at hI hsk
            rw [List.length_drop, List.length_drop] at hsk
            refine ⟨⟨some b, p' + m.toNat, out⟩, ⟨?_, ?_, ?_, ?_⟩, ?_, ?_, ?_⟩
            · dsimp only; omega
            · exact hol
            · exact ho
            · exact hI
            · dsimp only; omega
            · simp [accV]; omega
            · exact .cons 0 rfl .nil
        · rw [if_neg h1] at hI
          refine fork (fun h2 => go ?_) (fun h2 => go ?_)
          · rw [h2] at hI
            refine VRet.mk [] .nil ?_
            rw [← hI]; dsimp only; rw [take_toksC]; exact ⟨rfl, rfl⟩
          · obtain ⟨c, q, hcq⟩ : ∃ c q, (s.drop p').take w = c :: q := by
              cases hx : (s.drop p').take w with
              | nil => exact absurd hx h2
              | cons c q => exact ⟨c, q, rfl⟩
            have hwp : 0 < w := by
              rcases Nat.eq_zero_or_pos w with h0 | h0
              · rw [h0] at hcq; simp at hcq
              · exact h0
            have hc0 : ((s.drop p').take w).getD 0 0 = c := by rw [hcq]; rfl
            refine VAll.mk (fun bt => go ?_)
            rw [hc0]
            have f17 := f17_of ((s.drop p').take w)
            have f11 := f11_of ((s.drop p').take w) (by simp; omega)
            have hI2 := hI
            rw [hcq] at hI2
            dsimp only at hI2
            rw [← hcq] at hI2
            replace hI := hI2
            clear hI2
            refine fork (fun h34 => go ?_) (fun h34 => go ?_)
            · have h34 : c = 34 := by rw [← UInt8.toNat_inj]; exact Int.ofNat_inj.1 h34
              rw [if_pos h34, List.drop_drop] at hI
              have fx := f_text s p' (by omega) hs
              have hnx := textL_next p' (s.drop (p' + 1)) [] (p' + 1)
              rw [show textR s p' = textL p' (s.drop (p' + 1)) [] (p' + 1) from rfl] at fx
              generalize textL p' (s.drop (p' + 1)) [] (p' + 1) = x at fx hI hnx
              obtain ⟨x, nx, e⟩ := x
              dsimp only at fx hI hnx
              refine Fn.use (fx) (go ?_)
              refine fork (fun he => go ?_) (fun he => go ?_)
              · have he : e = 0 := he
                have hnx := hnx he
                subst he
                rw [if_pos rfl] at hI
                dsimp only at hI
                obtain ⟨j, rfl⟩ : ∃ j : Nat, nx = j := ⟨nx.toNat, by omega⟩
                rw [List.drop_drop, show p' + ((j : Int) - (p' : Int)).toNat = j by omega] at hI
                rw [List.length_drop] at hnx
                refine fork (fun hbig => go ?_) (fun hbig => go ?_)
                · rw [if_pos (by omega)] at hI
                  refine VRet.mk [] .nil ?_
                  rw [← hI]; exact ⟨rfl, rfl⟩
                · rw [if_neg (by omega)] at hI
                  refine VGd.mk (by simp; omega) (go ?_)
                  refine VAll.mk (fun b2 => go ?_)
                  refine ⟨⟨some b2, j, out ++ [⟨3, x, 0, (p' : Nat)⟩]⟩, ⟨?_, ?_, ?_, ?_⟩, ?_, ?_, ?_⟩
                  · dsimp only; omega
                  · simp; omega
                  · intro h; cases h
                  · exact hI
                  · dsimp only; omega
                  · simp [accV]; try omega
                  · simp only [accS, toksC_snoc]; rw [mulN_eq, take_toksC]; exact .cons 0 rfl .nil
              · have he : ¬ e = 0 := he
                rw [if_neg he] at hI
                refine VIf.yes (by simpa using he) (go ?_)
                refine VRet.mk [] .nil ?_
                rw [← hI]; exact ⟨rfl, rfl⟩
            · have h34 : ¬ c = 34 := by rw [← UInt8.toNat_inj]; exact fun e => h34 (Int.ofNat_inj.2 e)
              rw [if_neg h34, List.drop_drop] at hI
              generalize digitsR ((s.drop p').take w) = d at f17 hI
              obtain ⟨n, num, ok⟩ := d
              dsimp only at f17 hI
              refine Fn.use (f17) (go ?_)
              cases num with
              | true =>
                rw [if_pos rfl] at hI
                cases ok with
                | true =>
                  rw [if_pos rfl] at hI
                  dsimp only at hI
                  refine go ?_
                  refine fork (fun hbig => go ?_) (fun hbig => go ?_)
                  · rw [if_pos (by omega)] at hI
                    refine VRet.mk [] .nil ?_
                    rw [← hI]; exact ⟨rfl, rfl⟩
                  · rw [if_neg (by omega)] at hI
                    refine VGd.mk (by simp; omega) (go ?_)
                    refine VAll.mk (fun b2 => go ?_)
                    refine ⟨⟨some b2, p' + w, out ++ [⟨2, [], n, (p' : Nat)⟩]⟩, ⟨?_, ?_, ?_, ?_⟩, ?_, ?_, ?_⟩
                    · dsimp only; omega
                    · simp; omega
                    · intro h; cases h
                    · exact hI
                    · dsimp only; omega
                    · simp [accV]; try omega
                    · simp only [accS, toksC_snoc]; rw [mulN_eq, take_toksC]; exact .cons 0 rfl .nil
                | false =>
                  rw [if_neg (by simp)] at hI
                  refine go ?_
                  refine VRet.mk [] .nil ?_
                  rw [← hI]; exact ⟨rfl, rfl⟩
              | false =>
                rw [if_neg (by simp)] at hI
                refine go ?_
                generalize nameR ((s.drop p').take w) = nm at f11 hI
                refine Fn.use (f11) (go ?_)
                cases nm with
                | true =>
                  rw [if_pos rfl] at hI
                  dsimp only at hI
                  refine go ?_
                  refine fork (fun hbig => go ?_) (fun hbig => go ?_)
                  · rw [if_pos (by omega)] at hI
                    refine VRet.mk [] .nil ?_
                    rw [← hI]; exact ⟨rfl, rfl⟩
                  · rw [if_neg (by omega)] at hI
                    refine VGd.mk (by simp; omega) (go ?_)
                    refine VAll.mk (fun b2 => go ?_)
                    refine ⟨⟨some b2, p' + w, out ++ [⟨1, (s.drop p').take w, 0, (p' : Nat)⟩]⟩, ⟨?_, ?_, ?_, ?_⟩, ?_, ?_, ?_⟩
                    · dsimp only; omega
                    · simp; omega
                    · intro h; cases h
                    · exact hI
                    · dsimp only; omega
                    · simp [accV]; try omega
                    · simp only [accS, toksC_snoc]; rw [mulN_eq, take_toksC]; exact .cons 0 rfl .nil
                | false =>
                  rw [if_neg (by simp)] at hI
                  refine go ?_
                  refine VRet.mk [] .nil ?_
                  rw [← hI]; exact ⟨rfl, rfl⟩
      · subst hk
        refine go ?_
        rw [← hk1]
        refine fork (fun h1 => go ?_) (fun h1 => go ?_)
        · rw [if_pos h1] at hI
          have hb := indexByte_lt (s.drop p') 10
          rw [List.length_drop] at hb
          have fi := fn_IndexByte (s.drop p') 10
          rw [show (10 : Int).toNat.toUInt8 = (10 : UInt8) from rfl] at fi
          obtain ⟨m, hmm⟩ : ∃ m, m = Lib.indexByte (s.drop p') 10 := ⟨_, rfl⟩
          rw [← hmm] at fi hb hI
          refine Fn.use (fi) (go ?_)
          refine fork (fun hm => go ?_) (fun hm => go ?_)
          · rw [if_pos hm] at hI
            refine VRet.mk [] .nil ?_
            rw [← hI]; dsimp only; rw [take_toksC]; exact ⟨rfl, rfl⟩
          · rw [if_neg hm] at hI
            dsimp only at hI
            have hsk := (tokAt_less (N := s.length) (.inl (show tokAt s.length (s.drop p') = .skip ((s.drop p').drop m.toNat) by unfold tokAt; rw [← hw, if_pos h1, ← hmm, if_neg hm]))).1
            rw [List.drop_drop] at hI hsk
            rw [List.length_drop, List.length_drop] at hsk
            refine ⟨⟨some b, p' + m.toNat, out⟩, ⟨?_, ?_, ?_, ?_⟩, ?_, ?_, ?_⟩
            · dsimp only; omega
            · exact hol
            · exact ho
            · exact hI
            · dsimp only; omega
            · simp [accV]; omega
            · exact .cons 0 rfl .nil
        · rw [if_neg h1] at hI
          refine fork (fun h2 => go ?_) (fun h2 => go ?_)
          · rw [h2] at hI
            refine VRet.mk [] .nil ?_
            rw [← hI]; dsimp only; rw [take_toksC]; exact ⟨rfl, rfl⟩
          · obtain ⟨c, q, hcq⟩ : ∃ c q, (s.drop p').take w = c :: q := by
              cases hx : (s.drop p').take w with
              | nil => exact absurd hx h2
              | cons c q => exact ⟨c, q, rfl⟩
            have hwp : 0 < w := by
              rcases Nat.eq_zero_or_pos w with h0 | h0
              · rw [h0] at hcq; simp at hcq
              · exact h0
            have hc0 : ((s.drop p').take w).getD 0 0 = c := by rw [hcq]; rfl
            refine VAll.mk (fun bt => go ?_)
            rw [hc0]
            have f17 := f17_of ((s.drop p').take w)
            have f11 := f11_of ((s.drop p').take w) (by simp; omega)
            have hI2 := hI
            rw [hcq] at hI2
            dsimp only at hI2
            rw [← hcq] at hI2
            replace hI := hI2
            clear hI2
            refine fork (fun h34 => go ?_) (fun h34 => go ?_)
            · have h34 : c = 34 := by rw [← UInt8.toNat_inj]; exact Int.ofNat_inj.1 h34
              rw [if_pos h34, List.drop_drop] at hI
              have fx := f_text s p' (by omega) hs
              have hnx := textL_next p' (s.drop (p' + 1)) [] (p' + 1)
              rw [show textR s p' = textL p' (s.drop (p' + 1)) [] (p' + 1) from rfl] at fx
              generalize textL p' (s.drop (p' + 1)) [] (p' + 1) = x at fx hI hnx
              obtain ⟨x, nx, e⟩ := x
              dsimp only at fx hI hnx
              refine Fn.use (fx) (go ?_)
              refine fork (fun he => go ?_) (fun he => go ?_)
              · have he : e = 0 := he
                have hnx := hnx he
                subst he
                rw [if_pos rfl] at hI
                dsimp only at hI
                obtain ⟨j, rfl⟩ : ∃ j : Nat, nx = j := ⟨nx.toNat, by omega⟩
                rw [List.drop_drop, show p' + ((j : Int) - (p' : Int)).toNat = j by omega] at hI
                rw [List.length_drop] at hnx
                refine fork (fun hbig => go ?_) (fun hbig => go ?_)
                · rw [if_pos (by omega)] at hI
                  refine VRet.mk [] .nil ?_
                  rw [← hI]; exact ⟨rfl, rfl⟩
                · rw [if_neg (by omega)] at hI
                  refine VGd.mk (by simp; omega) (go ?_)
                  refine VAll.mk (fun b2 => go ?_)
                  refine ⟨⟨some b2, j, out ++ [⟨3, x, 0, (p' : Nat)⟩]⟩, ⟨?_, ?_, ?_, ?_⟩, ?_, ?_, ?_⟩
                  · dsimp only; omega
                  · simp; omega
                  · intro h; cases h
                  · exact hI
                  · dsimp only; omega
                  · simp [accV]; try omega
                  · simp only [accS, toksC_snoc]; rw [mulN_eq, take_toksC]; exact .cons 0 rfl .nil
              · have he : ¬ e = 0 := he
                rw [if_neg he] at hI
                refine VIf.yes (by simpa using he) (go ?_)
                refine VRet.mk [] .nil ?_
                rw [← hI]; exact ⟨rfl, rfl⟩
            · have h34 : ¬ c = 34 := by rw [← UInt8.toNat_inj]; exact fun e => h34 (Int.ofNat_inj.2 e)
              rw [if_neg h34, List.drop_drop] at hI
              generalize digitsR ((s.drop p').take w) = d at f17 hI
              obtain ⟨n, num, ok⟩ := d
              dsimp only at f17 hI
              refine Fn.use (f17) (go ?_)
              cases num with
              | true =>
                rw [if_pos rfl] at hI
                cases ok with
                | true =>
                  rw [if_pos rfl] at hI
                  dsimp only at hI
                  refine go ?_
                  refine fork (fun hbig => go ?_) (fun hbig => go ?_)
                  · rw [if_pos (by omega)] at hI
                    refine VRet.mk [] .nil ?_
                    rw [← hI]; exact ⟨rfl, rfl⟩
                  · rw [if_neg (by omega)] at hI
                    refine VGd.mk (by simp; omega) (go ?_)
                    refine VAll.mk (fun b2 => go ?_)
                    refine ⟨⟨some b2, p' + w, out ++ [⟨2, [], n, (p' : Nat)⟩]⟩, ⟨?_, ?_, ?_, ?_⟩, ?_, ?_, ?_⟩
                    · dsimp only; omega
                    · simp; omega
                    · intro h; cases h
                    · exact hI
                    · dsimp only; omega
                    · simp [accV]; try omega
                    · simp only [accS, toksC_snoc]; rw [mulN_eq, take_toksC]; exact .cons 0 rfl .nil
                | false =>
                  rw [if_neg (by simp)] at hI
                  refine go ?_
                  refine VRet.mk [] .nil ?_
                  rw [← hI]; exact ⟨rfl, rfl⟩
              | false =>
                rw [if_neg (by simp)] at hI
                refine go ?_
                generalize nameR ((s.drop p').take w) = nm at f11 hI
                refine Fn.use (f11) (go ?_)
                cases nm with
                | true =>
                  rw [if_pos rfl] at hI
                  dsimp only at hI
                  refine go ?_
                  refine fork (fun hbig => go ?_) (fun hbig => go ?_)
                  · rw [if_pos (by omega)] at hI
                    refine VRet.mk [] .nil ?_
                    rw [← hI]; exact ⟨rfl, rfl⟩
                  · rw [if_neg (by omega)] at hI
                    refine VGd.mk (by simp; omega) (go ?_)
                    refine VAll.mk (fun b2 => go ?_)
                    refine ⟨⟨some b2, p' + w, out ++ [⟨1, (s.drop p').take w, 0, (p' : Nat)⟩]⟩, ⟨?_, ?_, ?_, ?_⟩, ?_, ?_, ?_⟩
                    · dsimp only; omega
                    · simp; omega
                    · intro h; cases h
                    · exact hI
                    · dsimp only; omega
                    · simp [accV]; try omega
                    · simp only [accS, toksC_snoc]; rw [mulN_eq, take_toksC]; exact .cons 0 rfl .nil
                | false =>
                  rw [if_neg (by simp)] at hI
                  refine go ?_
                  refine VRet.mk [] .nil ?_
                  rw [← hI]; exact ⟨rfl, rfl⟩
    · rw [List.drop_eq_nil_of_le (by omega), toks_step, if_pos rfl] at hI
      refine VRet.mk [] .nil ?_
      rw [← hI]; dsimp only; rw [take_toksC]; exact ⟨rfl, rfl⟩

theorem f_Tokens (s : List UInt8) : Av.Fn Tryd.prog 7 [.str s] (.tup [.fz (toksC (tokensR s).1) (tokensR s).1.length false, .int .i64 (tokensR s).2.1, .int .i64 (tokensR s).2.2]) := by
  unfold tokensR
  by_cases hs : s.length > 65536
  · rw [if_pos hs]
    refine ACalls.of_W tb_ok (fn := Tryd.f7) (n := 113) (by kernel_rfl) rfl (by kernel_rfl) rfl rfl (by simp) (go ?_)
    refine VIf.yes (decide_eq_true (by omega)) (go ?_)
    refine VRet.mk [] .nil ?_
    exact ⟨rfl, rfl⟩
  · rw [if_neg hs]
    cases hf : faultR s with
    | some i =>
      have ff := f_fault s
      rw [show faultV s = i by simp [faultV, hf]] at ff
      refine ACalls.of_W tb_ok (fn := Tryd.f7) (n := 113) (by kernel_rfl) rfl (by kernel_rfl) rfl rfl (by simp) (go ?_)
      refine VIf.no (decide_eq_false (by omega)) (go ?_)
      refine Fn.use (ff) (go ?_)
      refine VRet.mk [] .nil ?_
      exact ⟨rfl, rfl⟩
    | none => exact toks_of s (by omega) hf
end Go.Proofs.YthmklkggehgijaaDoor

namespace Go.Proofs.YthmklkggehgijaaDoor
open Go Go.Av
theorem name_dup : nameR [100, 117, 112] = true := by decide +kernel
theorem name_7 : nameR [55] = false := by decide +kernel
theorem f8_of : Av.Fn Tryd.prog 4 [] (.bool true) := by
  have h1 := f11_of [100, 117, 112] (by decide)
  have h2 := f11_of [55] (by decide)
  rw [name_dup] at h1
  rw [name_7] at h2
  refine ACalls.of_W tb_ok (fn := Tryd.f4) (n := 6) (by kernel_rfl) rfl (by kernel_rfl) rfl rfl (by simp) (go ?_)
  refine Fn.use (h1) (go ?_)
  refine Fn.use (h2) (go ?_)
  refine VRet.mk [] .nil ?_
  simp
end Go.Proofs.YthmklkggehgijaaDoor

namespace Go.Proofs.YthmklkggehgijaaDoor
open Go Go.Av
structure Ch where
  r : Nat
  a : Nat
  z : Nat
  bad : Bool
def chL (i : Nat) : List (Nat × Nat) → List Ch
  | [] => []
  | (r, k) :: rs => ⟨r, i, i + k, badB (r, k)⟩ :: chL (i + k) rs
def Ch.cells (c : Ch) : List AV := [.int .i32 c.r, .int .i64 c.a, .int .i64 c.z, .bool c.bad]
def chC (l : List Ch) : List AV := (l.map Ch.cells).flatten
@[simp] theorem chC_length (l : List Ch) : (chC l).length = l.length * 4 := by
  induction l with
  | nil => rfl
  | cons t l ih => show (t.cells ++ chC l).length = _; rw [List.length_append, ih]; simp [Ch.cells]; omega
theorem chC_snoc (l : List Ch) (t : Ch) : chC (l ++ [t]) = chC l ++ t.cells := by simp [chC]
theorem take_chC (l : List Ch) : (chC l).take (l.length * 4) = chC l := List.take_of_length_le (by simp)
theorem chC_at : ∀ {l : List Ch} {r : List AV} {i : Nat} {t : Ch}, l[i]? = some t → ((chC l ++ r).drop (i * 4)).take 4 = t.cells
  | [], _, _, _, h => by simp at h
  | x :: l, r, 0, t, h => by simp at h; subst h; rfl
  | x :: l, r, i + 1, t, h => by
    have := chC_at (l := l) (r := r) (i := i) (t := t) (by simpa using h)
    rw [← this, show (i + 1) * 4 = 4 + i * 4 by omega, ← List.drop_drop]; rfl
theorem chL_length : ∀ (i : Nat) (rs : List (Nat × Nat)), (chL i rs).length = rs.length
  | _, [] => rfl
  | i, (r, k) :: rs => by simp [chL, chL_length]
theorem chL_append : ∀ (i : Nat) (a b : List (Nat × Nat)), chL i (a ++ b) = chL i a ++ chL (i + (a.map (·.2)).sum) b
  | i, [], b => by simp [chL]
  | i, (r, k) :: a, b => by simp [chL, chL_append (i + k) a b, Nat.add_assoc]
theorem runes_len (l : List UInt8) : (runes l).length ≤ l.length := by
  induction l using runes_ind with
  | h0 => simp
  | h1 l hl ih =>
    obtain ⟨h1, h2, _⟩ := dec_pos l hl
    rw [runes_cons hl, List.length_cons]
    rw [List.length_drop] at ih; omega
/-- How long a character's own bytes are. -/
def encN (r : Nat) : Nat := (Utf8.encode (r : Int)).data.toList.length
theorem enc_len (r : Nat) : encN r = if r ≤ 1114111 ∧ ¬ (55296 ≤ r ∧ r ≤ 57343) then (if r < 128 then 1 else if r < 2048 then 2 else if r < 65536 then 3 else 4) else 3 := by
  unfold encN
  have hv : Utf8.valid (r : Int) = decide (r ≤ 1114111 ∧ ¬ (55296 ≤ r ∧ r ≤ 57343)) := by
    simp only [Utf8.valid]
    rw [Bool.eq_iff_iff]; simp; omega
  by_cases h : r ≤ 1114111 ∧ ¬ (55296 ≤ r ∧ r ≤ 57343)
  · rw [if_pos h]
    rw [decide_eq_true h] at hv
    simp only [Utf8.encode, hv, if_true, Int.toNat_natCast]
    by_cases h1 : r < 128
    · rw [if_pos h1, if_pos h1]; rfl
    rw [if_neg h1, if_neg h1]
    by_cases h2 : r < 2048
    · rw [if_pos h2, if_pos h2]; rfl
    rw [if_neg h2, if_neg h2]
    by_cases h3 : r < 65536
    · rw [if_pos h3, if_pos h3]; rfl
    rw [if_neg h3, if_neg h3]; rfl
  · rw [if_neg h]
    rw [decide_eq_false h] at hv
    simp only [Utf8.encode, hv, Bool.false_eq_true, if_false]
    rw [if_neg (by decide), if_neg (by decide), if_pos (by decide)]; rfl
theorem dec_enc {l : List UInt8} (h : l ≠ []) : badB (dec l) = false → encN (dec l).1 = (dec l).2 := by
  have hl : 1 ≤ l.length := by cases l with | nil => exact absurd rfl h | cons => simp
  rw [enc_len, dec_N]
  generalize (l.getD 0 0).toNat = a
  generalize (l.getD 1 0).toNat = b
  generalize (l.getD 2 0).toNat = c
  generalize (l.getD 3 0).toNat = d
  intro hb
  unfold Lib.decodeN at hb ⊢
  repeat' split
  all_goals first | (simp [badB] at hb; done) | (dsimp only at *; omega) | skip
  all_goals simp_all [badB]
  all_goals omega
def charsR (l : List UInt8) : List Ch := chL 0 (runes l)
structure ChI where
  o : Option Nat
  i : Nat
  out : List Ch



set_option maxHeartbeats 800000 in
theorem f_Chars (l : List UInt8) (hl : l.length ≤ 1000000000) : Av.Fn Tryd.prog 12 [.str l] (.fz (chC (charsR l)) (charsR l).length false) := by
  refine ACalls.of_W tb_ok (fn := Tryd.f12) (n := 45) (by kernel_rfl) rfl (by kernel_rfl) rfl rfl (by simp) (go ?_)
  refine VAll.mk (fun b => go ?_)
  refine VLoop.mk [3] ChI (fun i => [accV i.o i.out.length]) (fun i => (b, .siter l i.i) :: accS i.o 4 (chC i.out))
    (fun i => i.i ≤ l.length ∧ i.out.length ≤ i.i ∧ (i.o = none → i.out = []) ∧ i.out ++ chL i.i (runes (l.drop i.i)) = charsR l) (fun i => l.length - i.i) ⟨none, 0, []⟩ ?_ ?_
  · exact ⟨⟨by simp, by simp, by simp, by simp [charsR]⟩, rfl, .cons 0 rfl .nil⟩
  rintro ⟨o, i, out⟩ ⟨hi, hol, ho, hI⟩
  dsimp only at hi hol ho hI ⊢
  cases o with
  | none =>
    have hacc := ho rfl
    subst hacc
    refine go ?_
    refine fork (fun hlt => go ?_) (fun hlt => go ?_)
    · have hlt : i < l.length := by omega
      have hne' : l.drop i ≠ [] := by simp; omega
      have hc := dec_pos _ hne'
      have hbad := dec_bad hne'
      have henc := dec_enc hne'
      have hru := runes_cons hne'
      rw [← dec_at] at hc hbad henc hru
      generalize hdc : Utf8.decode ⟨⟨l⟩⟩ i = c at hc hbad henc hru
      rw [List.drop_drop] at hru
      obtain ⟨r, k⟩ := c
      dsimp only at hc hbad henc hru ⊢
      rw [List.length_drop] at hc hbad
      rw [show (Utf8.encode (r : Int)).data.toList.length = encN r from rfl]
      cases hbb : badB (r, k) with
      | true =>
        have hrk : r = 65533 ∧ k = 1 := by simpa [badB] using hbb
        obtain ⟨rfl, rfl⟩ := hrk
        have he3 : encN 65533 = 3 := by rw [enc_len]; rfl
        rw [he3]
        rw [hbb, decide_eq_true rfl, Bool.true_and, Bool.not_eq_true', Bool.and_eq_false_iff] at hbad
        refine VInt.to ((i + 3 : Nat) : Int) (by omega) (by omega) (by omega) (go ?_)
        by_cases h3 : i + 3 ≤ l.length
        · have h4 : ¬ (l.drop i).take 3 = [239, 191, 189] := by
            rcases hbad with h | h
            · simp at h; omega
            · simpa using h
          refine VIf.no (decide_eq_false (by omega)) (go ?_)
          refine VIf.yes (by rw [List.drop_take, Nat.add_sub_cancel_left]; simp [h4]) (go ?_)
          refine VAll.mk (fun b2 => go ?_)
          refine ⟨⟨some b2, i + 1, [⟨65533, i, i + 1, true⟩]⟩, ⟨?_, ?_, ?_, ?_⟩, ?_, ?_, ?_⟩
          · dsimp only; omega
          · simp; try omega
          · intro h; cases h
          · dsimp only; rw [← hI, hru, chL, hbb]; rfl
          · dsimp only; omega
          · simp [accV]
          · exact .cons 1 rfl (.cons 0 rfl .nil)
        · refine VIf.yes (decide_eq_true (by omega)) (go ?_)
          refine VAll.mk (fun b2 => go ?_)
          refine ⟨⟨some b2, i + 1, [⟨65533, i, i + 1, true⟩]⟩, ⟨?_, ?_, ?_, ?_⟩, ?_, ?_, ?_⟩
          · dsimp only; omega
          · simp; try omega
          · intro h; cases h
          · dsimp only; rw [← hI, hru, chL, hbb]; rfl
          · dsimp only; omega
          · simp [accV]
          · exact .cons 1 rfl (.cons 0 rfl .nil)
      | false =>
        rw [henc hbb]
        refine VInt.to ((i + k : Nat) : Int) (by omega) (by omega) (by omega) (go ?_)
        by_cases hr : r = 65533
        · subst hr
          have hk3 : k = 3 := by rw [← henc hbb, enc_len]; rfl
          subst hk3
          rw [hbb, decide_eq_true rfl, Bool.true_and, Bool.not_eq_false', Bool.and_eq_true, decide_eq_true_eq, decide_eq_true_eq] at hbad
          refine go ?_
          refine VIf.no (decide_eq_false (by omega)) (go ?_)
          refine VIf.no (by rw [List.drop_take, Nat.add_sub_cancel_left, hbad.2]; rfl) (go ?_)
          refine VAll.mk (fun b2 => go ?_)
          refine ⟨⟨some b2, i + 3, [⟨65533, i, i + 3, false⟩]⟩, ⟨?_, ?_, ?_, ?_⟩, ?_, ?_, ?_⟩
          · dsimp only; omega
          · simp; try omega
          · intro h; cases h
          · dsimp only; rw [← hI, hru, chL, hbb]; rfl
          · dsimp only; omega
          · simp [accV]
          · exact .cons 1 rfl (.cons 0 rfl .nil)
        · refine VIf.no (decide_eq_false (by omega)) (go ?_)
          refine VAll.mk (fun b2 => go ?_)
          refine ⟨⟨some b2, i + k, [⟨r, i, i + k, false⟩]⟩, ⟨?_, ?_, ?_, ?_⟩, ?_, ?_, ?_⟩
          · dsimp only; omega
          · simp; try omega
          · intro h; cases h
          · dsimp only; rw [← hI, hru, chL, hbb]; rfl
          · dsimp only; omega
          · simp [accV]
          · exact .cons 1 rfl (.cons 0 rfl .nil)
    · rw [List.drop_eq_nil_of_le (by omega)] at hI
      refine VRet.mk [] .nil ?_
      rw [← hI]; simp [chL, chC]; try rfl
  | some bo =>
    refine go ?_
    refine fork (fun hlt => go ?_) (fun hlt => go ?_)
    · have hlt : i < l.length := by omega
      have hne' : l.drop i ≠ [] := by simp; omega
      have hc := dec_pos _ hne'
      have hbad := dec_bad hne'
      have henc := dec_enc hne'
      have hru := runes_cons hne'
      rw [← dec_at] at hc hbad henc hru
      generalize hdc : Utf8.decode ⟨⟨l⟩⟩ i = c at hc hbad henc hru
      rw [List.drop_drop] at hru
      obtain ⟨r, k⟩ := c
      dsimp only at hc hbad henc hru ⊢
      rw [List.length_drop] at hc hbad
      rw [show (Utf8.encode (r : Int)).data.toList.length = encN r from rfl]
      cases hbb : badB (r, k) with
      | true =>
        have hrk : r = 65533 ∧ k = 1 := by simpa [badB] using hbb
        obtain ⟨rfl, rfl⟩ := hrk
        have he3 : encN 65533 = 3 := by rw [enc_len]; rfl
        rw [he3]
        rw [hbb, decide_eq_true rfl, Bool.true_and, Bool.not_eq_true', Bool.and_eq_false_iff] at hbad
        refine VInt.to ((i + 3 : Nat) : Int) (by omega) (by omega) (by omega) (go ?_)
        by_cases h3 : i + 3 ≤ l.length
        · have h4 : ¬ (l.drop i).take 3 = [239, 191, 189] := by
            rcases hbad with h | h
            · simp at h; omega
            · simpa using h
          refine VIf.no (decide_eq_false (by omega)) (go ?_)
          refine VIf.yes (by rw [List.drop_take, Nat.add_sub_cancel_left]; simp [h4]) (go ?_)
          refine VGd.mk (by simp; omega) (go ?_)
          refine VAll.mk (fun b2 => go ?_)
          refine ⟨⟨some b2, i + 1, out ++ [⟨65533, i, i + 1, true⟩]⟩, ⟨?_, ?_, ?_, ?_⟩, ?_, ?_, ?_⟩
          · dsimp only; omega
          · simp; try omega
          · intro h; cases h
          · dsimp only; rw [List.append_assoc, ← hI, hru, chL, hbb]; rfl
          · dsimp only; omega
          · simp [accV]
          · simp only [accS, chC_snoc]; rw [mulN_eq, take_chC]; exact .cons 1 rfl (.cons 0 rfl .nil)
        · refine VIf.yes (decide_eq_true (by omega)) (go ?_)
          refine VGd.mk (by simp; omega) (go ?_)
          refine VAll.mk (fun b2 => go ?_)
          refine ⟨⟨some b2, i + 1, out ++ [⟨65533, i, i + 1, true⟩]⟩, ⟨?_, ?_, ?_, ?_⟩, ?_, ?_, ?_⟩
          · dsimp only; omega
          · simp; try omega
          · intro h; cases h
          · dsimp only; rw [List.append_assoc, ← hI, hru, chL, hbb]; rfl
          · dsimp only; omega
          · simp [accV]
          · simp only [accS, chC_snoc]; rw [mulN_eq, take_chC]; exact .cons 1 rfl (.cons 0 rfl .nil)
      | false =>
        rw [henc hbb]
        refine VInt.to ((i + k : Nat) : Int) (by omega) (by omega) (by omega) (go ?_)
        by_cases hr : r = 65533
        · subst hr
          have hk3 : k = 3 := by rw [← henc hbb, enc_len]; rfl
          subst hk3
          rw [hbb, decide_eq_true rfl, Bool.true_and, Bool.not_eq_false', Bool.and_eq_true, decide_eq_true_eq, decide_eq_true_eq] at hbad
          refine go ?_
          refine VIf.no (decide_eq_false (by omega)) (go ?_)
          refine VIf.no (by rw [List.drop_take, Nat.add_sub_cancel_left, hbad.2]; rfl) (go ?_)
          refine VGd.mk (by simp; omega) (go ?_)
          refine VAll.mk (fun b2 => go ?_)
          refine ⟨⟨some b2, i + 3, out ++ [⟨65533, i, i + 3, false⟩]⟩, ⟨?_, ?_, ?_, ?_⟩, ?_, ?_, ?_⟩
          · dsimp only; omega
          · simp; try omega
          · intro h; cases h
          · dsimp only; rw [List.append_assoc, ← hI, hru, chL, hbb]; rfl
          · dsimp only; omega
          · simp [accV]
          · simp only [accS, chC_snoc]; rw [mulN_eq, take_chC]; exact .cons 1 rfl (.cons 0 rfl .nil)
        · refine VIf.no (decide_eq_false (by omega)) (go ?_)
          refine VGd.mk (by simp; omega) (go ?_)
          refine VAll.mk (fun b2 => go ?_)
          refine ⟨⟨some b2, i + k, out ++ [⟨r, i, i + k, false⟩]⟩, ⟨?_, ?_, ?_, ?_⟩, ?_, ?_, ?_⟩
          · dsimp only; omega
          · simp; try omega
          · intro h; cases h
          · dsimp only; rw [List.append_assoc, ← hI, hru, chL, hbb]; rfl
          · dsimp only; omega
          · simp [accV]
          · simp only [accS, chC_snoc]; rw [mulN_eq, take_chC]; exact .cons 1 rfl (.cons 0 rfl .nil)
    · rw [List.drop_eq_nil_of_le (by omega)] at hI
      refine VRet.mk [] .nil ?_
      rw [← hI]; simp [chL, take_chC]; try rfl
def fb : List Ch → Int
  | [] => -1
  | c :: r => if c.bad then (c.a : Int) else fb r
theorem fb_chL : ∀ (a : Nat) (rs : List (Nat × Nat)), fb (chL a rs) = match faultL rs with
    | none => -1
    | some j => ((a + j : Nat) : Int)
  | a, [] => rfl
  | a, (r, k) :: rs => by
    rw [chL, fb, faultL, fb_chL (a + k) rs]
    cases badB (r, k) with
    | true => simp
    | false =>
      cases faultL rs with
      | none => simp
      | some j => simp [Nat.add_assoc]
theorem f_Bad (l : List UInt8) (hl : l.length ≤ 1000000000) : Av.Fn Tryd.prog 6 [.str l] (.int .i64 (faultV l)) := by
  have hfb : fb (charsR l) = faultV l := by
    unfold charsR faultV faultR
    rw [fb_chL]
    cases faultL (runes l) <;> simp
  have hcl : (charsR l).length ≤ 1000000000 := by
    have := runes_len l
    unfold charsR; rw [chL_length]; omega
  have fc := f_Chars l hl
  generalize charsR l = cs at fc hfb hcl
  refine ACalls.of_W tb_ok (fn := Tryd.f6) (n := 23) (by kernel_rfl) rfl (by kernel_rfl) rfl rfl (by simp) (go ?_)
  refine Fn.use (fc) (go ?_)
  refine VLoop.mk [4] Nat (fun i => [.int .i64 i]) (fun _ => []) (fun i => i ≤ cs.length ∧ fb (cs.drop i) = faultV l) (fun i => cs.length - i) 0 ?_ ?_
  · exact ⟨⟨by omega, hfb⟩, rfl, .nil⟩
  intro i ⟨hi, hI⟩
  refine go ?_
  refine fork (fun hlt => go ?_) (fun hlt => go ?_)
  · have hlt : i < cs.length := by omega
    have hdl : cs.drop i = cs[i] :: cs.drop (i + 1) := List.drop_eq_getElem_cons hlt
    have hx : cs[i]? = some cs[i] := by simp [hlt]
    generalize cs[i] = x at hx hdl
    have e1 := chC_at (r := []) hx
    rw [List.append_nil] at e1
    obtain ⟨r, a, z, bad⟩ := x
    rw [hdl, fb] at hI
    have hcells : (cs.length * 4) = (chC cs).length := by simp
    have n3 : ((chC cs).drop (i * 4))[3]? = some (.bool bad) := by
      have := congrArg (·[3]?) e1
      simpa [List.getElem?_take, Ch.cells] using this
    have n1 : ((chC cs).drop (i * 4))[1]? = some (.int .i64 a) := by
      have := congrArg (·[1]?) e1
      simpa [List.getElem?_take, Ch.cells] using this
    refine VNth.mk (.bool bad) (by simpa using n3) (go ?_)
    dsimp only at hI
    cases bad with
    | true =>
      refine go ?_
      refine VNth.mk (.int .i64 a) (by simpa using n1) (go ?_)
      refine VRet.mk [] .nil ?_
      rw [← hI]; exact ⟨rfl, rfl⟩
    | false =>
      refine go ?_
      exact ⟨i + 1, ⟨by omega, by simpa using hI⟩, by omega, rfl, .nil⟩
  · rw [List.drop_eq_nil_of_le (by omega)] at hI
    refine VRet.mk [] .nil ?_
    rw [← hI]; exact ⟨rfl, rfl⟩
end Go.Proofs.YthmklkggehgijaaDoor

namespace Go.Proofs.YthmklkggehgijaaDoor
open Go Go.Av
theorem fault_of_neg {s : List UInt8} (h : ¬ 0 ≤ faultV s) : faultR s = none := by
  cases hf : faultR s with
  | none => rfl
  | some j => exact absurd (show (0 : Int) ≤ faultV s by simp [faultV, hf]) h
set_option maxHeartbeats 1600000 in
theorem f_LexQuotes0 (s : List UInt8) (n : Int) (hs : s.length ≤ 1048576) : Av.Fn Tryd.prog 3 [.str s, .int .i64 n] (.bool true) := by
  have fq := f_Quoted s
  have hbd := f_Bad s (by omega)
  unfold quotedR at fq
  by_cases h1 : 0 ≤ faultV s
  · rw [if_pos h1] at fq
    refine ACalls.of_W tb_ok (fn := Tryd.f3) (n := 89) (by kernel_rfl) rfl (by kernel_rfl) rfl rfl (by simp) (go ?_)
    refine Fn.use (f8_of) (go ?_)
    refine Fn.use (fq) (go ?_)
    refine Fn.use (hbd) (go ?_)
    repeat (refine VIf.yes (by simpa using h1) (go ?_))
    refine VRet.mk [] .nil ?_
    exact ⟨rfl, rfl⟩
  rw [if_neg h1] at fq
  by_cases h2 : 4096 < s.length
  · rw [if_pos h2] at fq
    refine ACalls.of_W tb_ok (fn := Tryd.f3) (n := 89) (by kernel_rfl) rfl (by kernel_rfl) rfl rfl (by simp) (go ?_)
    refine Fn.use (f8_of) (go ?_)
    refine Fn.use (fq) (go ?_)
    refine VRet.mk [] .nil ?_
    exact ⟨congrArg (fun b => AOut.ret (.bool b)) (decide_eq_true (by omega)), rfl⟩
  rw [if_neg h2] at fq
  have hq := qL_le s
  have hql := quoteR_length s
  obtain ⟨p, q, ht⟩ := tokens_srcQ (fault_of_neg h1) (by omega)
  have ft := f_Tokens (srcQ s)
  rw [ht] at ft
  refine ACalls.of_W tb_ok (fn := Tryd.f3) (n := 89) (by kernel_rfl) rfl (by kernel_rfl) rfl rfl (by simp) (go ?_)
  refine Fn.use (f8_of) (go ?_)
  refine Fn.use (fq) (go ?_)
  refine VGd.mk (by simp; omega) (go ?_)
  refine VGd.mk (by simp; omega) (go ?_)
  refine VGd.mk (by simp; omega) (go ?_)
  rw [show [100, 117, 112, 32] ++ quoteR s ++ [115, 119, 97, 112, 32] ++ quoteR s = srcQ s by simp [srcQ]]
  refine Fn.use (ft) (go ?_)
  repeat (refine VIf.yes (by first | decide | simp) (go ?_))
  refine VRet.mk [] .nil ?_
  exact ⟨congrArg (fun b => AOut.ret (.bool b)) (by simp), rfl⟩
theorem f_LexQuotes (s : List UInt8) (n : Int) (_ : s.length ≤ 140737488351232) (_ : -9223372036854775808 ≤ n ∧ n ≤ 9223372036854775807) (hs : s.length ≤ 1048576) : Av.Fn Tryd.prog 3 [.str s, .int .i64 n] (.bool true) := f_LexQuotes0 s n hs
end Go.Proofs.YthmklkggehgijaaDoor

namespace Go.Proofs.YthmklkggehgijaaDoor
open Go Go.Av
mutual
theorem bk_upto {H : Type} : ∀ d : DataW H, bk d ≤ Rows.uptoBulk d
  | .lit l => by cases l <;> simp [bk, Rows.uptoBulk]
  | .nil => by simp [bk, Rows.uptoBulk]
  | .ptr d => by have := bk_upto d; simp only [bk, Rows.uptoBulk]; omega
  | .slice es sp => by have := bkAll_upto es; have := bkAll_upto sp; simp only [bk, Rows.uptoBulk]; omega
  | .agg ps => by have := bkAll_upto ps; simp only [bk, Rows.uptoBulk]; omega
  | .iface t d => by have := bk_upto d; simp only [bk, Rows.uptoBulk]; omega
  | .map es => by have := bkEnts_upto es; simp only [bk, Rows.uptoBulk]; omega
  | .held h => by simp [bk, Rows.uptoBulk]
theorem bkAll_upto {H : Type} : ∀ l : List (DataW H), bkAll l ≤ Rows.uptoBulkAll l
  | [] => by simp [bkAll, Rows.uptoBulkAll]
  | d :: r => by have := bk_upto d; have := bkAll_upto r; simp only [bkAll, Rows.uptoBulkAll]; omega
theorem bkEnts_upto {H : Type} : ∀ l : List (Lit × DataW H), bkEnts l ≤ Rows.uptoBulkEntries l
  | [] => by simp [bkEnts, Rows.uptoBulkEntries]
  | (k, d) :: r => by
    have := bk_upto d; have := bkEnts_upto r
    simp only [bkEnts, Rows.uptoBulkEntries]
    cases k <;> simp only [Rows.uptoBulkEntry] <;> omega
end
end Go.Proofs.YthmklkggehgijaaDoor
