/- Brackets within one another: the plain law. Conditions: as each says. ParseNests: the walk. -/
import Derived.Test.YtbmplclnondfnaaDoorX4
import Derived.Test.YtbmplclnondfnaaDoorX6
set_option linter.all false
namespace Go.Proofs.YtbmplclnondfnaaDoor
open Go Go.Av
/-- A word that is a name, of ASCII characters. -/
def plainW (w : List UInt8) : Bool :=
  w.all (fun c => decide (c.toNat < 128) && !blankB c.toNat) && decide (w ≠ []) && decide (w.headD 34 ≠ 34) && decide (w ≠ [33]) && !(digitsR w).2.1 && nameR w
theorem runes_word : ∀ (w t : List UInt8), w.all (fun c => decide (c.toNat < 128) && !blankB c.toNat) = true → runes (w ++ t) = (w.map fun c => (c.toNat, 1)) ++ runes t
  | [], t, _ => rfl
  | c :: w, t, h => by
    simp only [List.all_cons, Bool.and_eq_true, decide_eq_true_eq] at h
    rw [List.cons_append, runes_ascii c (w ++ t) h.1.1, runes_word w t (by simpa using h.2)]
    rfl
theorem span_word (p : Nat → Bool) : ∀ (w : List UInt8) (r : List (Nat × Nat)), w.all (fun c => !p c.toNat) = true → spanR p ((w.map fun c => (c.toNat, 1)) ++ r) = w.length + spanR p r
  | [], r, _ => by simp
  | c :: w, r, h => by
    simp only [List.all_cons, Bool.and_eq_true] at h
    rw [List.map_cons, List.cons_append, spanR, span_word p w r h.2, if_neg (by simpa using h.1), List.length_cons]
    omega
theorem blank_sp : blankB ((32 : UInt8).toNat : Nat) = true := by decide
theorem trimL_sp (t : List UInt8) : trimL (32 :: t) = trimL t := by
  unfold trimL
  rw [runes_ascii 32 t (by decide), spanR, if_neg (by rw [blank_sp]; simp), show 1 + spanR (fun r => !blankB r) (runes t) = spanR (fun r => !blankB r) (runes t) + 1 by omega]
  rfl
theorem tokAt_word (N : Nat) (w t : List UInt8) (hw : plainW w = true) (ht : t = [] ∨ ∃ t', t = 32 :: t') :
    trimL (w ++ t) = w ++ t ∧ tokAt N (w ++ t) = .tok ⟨1, w, 0, (N - (w ++ t).length : Nat)⟩ t := by
  unfold plainW at hw
  simp only [Bool.and_eq_true, decide_eq_true_eq, Bool.not_eq_true'] at hw
  obtain ⟨⟨⟨⟨⟨h1, h2⟩, h3⟩, h4⟩, h5⟩, h6⟩ := hw
  have hr := runes_word w t h1
  have hb : w.all (fun c => !blankB c.toNat) = true := by
    rw [List.all_eq_true] at h1 ⊢
    intro c hc
    have := h1 c hc
    simp only [Bool.and_eq_true] at this
    exact this.2
  have hl : wlen (w ++ t) = w.length := by
    unfold wlen
    rw [hr, span_word _ _ _ hb]
    obtain rfl | ⟨t', rfl⟩ := ht
    · simp [spanR]
    · rw [runes_ascii 32 t' (by decide), spanR, if_pos blank_sp]; omega
  obtain ⟨c, w', rfl⟩ : ∃ c w', w = c :: w' := by cases w with | nil => exact absurd rfl h2 | cons c w' => exact ⟨c, w', rfl⟩
  constructor
  · unfold trimL
    rw [hr, List.map_cons, List.cons_append, spanR, if_pos]
    · rfl
    · simp only [List.all_cons, Bool.and_eq_true] at hb; exact hb.1
  · unfold tokAt
    rw [hl, List.take_left, if_neg h4]
    dsimp only
    rw [if_neg (by simpa using h3), if_neg (by rw [h5]; simp), if_pos h6, List.drop_left]
theorem toks_sp (N : Nat) (t : List UInt8) (out : List Tok) : toks N (32 :: t) out = toks N t out := by
  rw [toks_step, if_neg (by simp), trimL_sp]
  cases t with
  | nil => rfl
  | cons c t => rw [toks_step N (c :: t), if_neg (by simp)]
theorem toks_word (N : Nat) (w t : List UInt8) (out : List Tok) (hw : plainW w = true) (ho : out.length < 4096) :
    toks N (w ++ 32 :: t) out = toks N t (out ++ [⟨1, w, 0, (N - (w ++ 32 :: t).length : Nat)⟩]) := by
  have h := tokAt_word N w (32 :: t) hw (.inr ⟨t, rfl⟩)
  rw [toks_step, if_neg (by simp), h.1, h.2]
  dsimp only
  rw [if_neg (by omega), toks_sp]
theorem toks_last (N : Nat) (w : List UInt8) (out : List Tok) (hw : plainW w = true) (ho : out.length < 4096) :
    toks N w out = (out ++ [⟨1, w, 0, (N - w.length : Nat)⟩], 0, 0) := by
  have h := tokAt_word N w [] hw (.inl rfl)
  rw [List.append_nil] at h
  rw [toks_step, if_neg (by rintro rfl; simp [plainW] at hw), h.1, h.2]
  dsimp only
  rw [if_neg (by omega)]; rfl
/-- Words, each with a blank behind it. -/
def catW : List (List UInt8) → List UInt8
  | [] => []
  | w :: ws => w ++ 32 :: catW ws
def tokW : Nat → List (List UInt8) → List Tok
  | _, [] => []
  | p, w :: ws => ⟨1, w, 0, (p : Nat)⟩ :: tokW (p + w.length + 1) ws
theorem toks_cat (N : Nat) (t : List UInt8) : ∀ (ws : List (List UInt8)) (p : Nat) (out : List Tok), (∀ w ∈ ws, plainW w = true) → out.length + ws.length ≤ 4096 →
    p + (catW ws ++ t).length = N → toks N (catW ws ++ t) out = toks N t (out ++ tokW p ws)
  | [], p, out, _, _, _ => by simp [catW, tokW]
  | w :: ws, p, out, hw, ho, hp => by
    simp only [List.length_cons] at ho
    have e : catW (w :: ws) ++ t = w ++ 32 :: (catW ws ++ t) := by simp [catW]
    rw [e] at hp ⊢
    rw [toks_word N w _ out (hw w (List.mem_cons_self ..)) (by omega)]
    have hp' := hp
    simp only [List.length_append, List.length_cons] at hp'
    rw [toks_cat N t ws (p + w.length + 1) _ (fun v hv => hw v (List.mem_cons_of_mem _ hv)) (by simp only [List.length_append, List.length_cons, List.length_nil]; omega) (by simp only [List.length_append]; omega)]
    rw [tokW, List.append_assoc, List.singleton_append, show N - (w ++ 32 :: (catW ws ++ t)).length = p by omega]
theorem fault_ascii : ∀ (l : List UInt8), l.all (fun c => decide (c.toNat < 128)) = true → faultR l = none
  | [], _ => rfl
  | c :: l, h => by
    simp only [List.all_cons, Bool.and_eq_true, decide_eq_true_eq] at h
    exact (faultR_app [] c l h.1).2 ⟨rfl, fault_ascii l h.2⟩
theorem catW_app (a b : List (List UInt8)) : catW (a ++ b) = catW a ++ catW b := by
  induction a with
  | nil => rfl
  | cons w a ih => simp [catW, ih]
theorem catW_rep (w : List UInt8) (k : Nat) : (catW (List.replicate k w)).length = k * (w.length + 1) := by
  induction k with
  | zero => simp [catW]
  | succ k ih => rw [List.replicate_succ, catW, List.length_append, List.length_cons, ih, Nat.succ_mul]; omega
theorem catW_ascii : ∀ ws : List (List UInt8), (∀ w ∈ ws, w.all (fun c => decide (c.toNat < 128)) = true) → (catW ws).all (fun c => decide (c.toNat < 128)) = true
  | [], _ => rfl
  | w :: ws, h => by
    rw [catW, List.all_append, List.all_cons, h w (List.mem_cons_self ..), catW_ascii ws (fun v hv => h v (List.mem_cons_of_mem _ hv))]
    rfl
def openW (l : Bool) : List UInt8 := if l then [123] else [91]
def shutW (l : Bool) : List UInt8 := if l then [125] else [93]
def nestA (k : Nat) (l : Bool) : List UInt8 := catW (List.replicate k (openW l))
def nestB (k : Nat) (l : Bool) (j : Nat) : List UInt8 := nestA k l ++ catW (List.replicate j (shutW l))
theorem nestA_succ (k : Nat) (l : Bool) : nestA (k + 1) l = nestA k l ++ (if l then [123, 32] else [91, 32]) := by
  unfold nestA
  rw [List.replicate_succ', catW_app]
  cases l <;> rfl
theorem nestB_succ (k : Nat) (l : Bool) (j : Nat) : nestB k l (j + 1) = nestB k l j ++ (if l then [125, 32] else [93, 32]) := by
  unfold nestB
  rw [List.replicate_succ', catW_app, ← List.append_assoc]
  cases l <;> rfl
def nestT (k : Nat) (l d : Bool) : List UInt8 := if d then [58, 32, 120, 32, 40, 32, 45, 45, 32, 41, 32] ++ nestB k l k ++ [59] else nestB k l k
def headW (d : Bool) : List (List UInt8) := if d then [[58], [120], [40], [45, 45], [41]] else []
def nestW (k : Nat) (l d : Bool) : List (List UInt8) := headW d ++ (List.replicate k (openW l) ++ List.replicate k (shutW l))
def lastW (d : Bool) : List UInt8 := if d then [59] else []
theorem nestT_eq (k : Nat) (l d : Bool) : nestT k l d = catW (nestW k l d) ++ lastW d := by
  unfold nestT nestW nestB nestA
  rw [catW_app, catW_app]
  cases d with
  | true => rw [if_pos rfl]; rfl
  | false => rw [if_neg (by simp)]; simp [headW, catW, lastW]
def nestEnd (k : Nat) (d : Bool) : Nat := 4 * k + if d then 12 else 0
theorem nestT_length (k : Nat) (l d : Bool) : (nestT k l d).length = nestEnd k d := by
  rw [nestT_eq, nestW, catW_app, catW_app, List.length_append, List.length_append, List.length_append, catW_rep, catW_rep]
  cases d <;> cases l <;> simp [headW, catW, lastW, openW, shutW, nestEnd] <;> omega
theorem nestW_plain (k : Nat) (l d : Bool) : ∀ w ∈ nestW k l d, plainW w = true := by
  have h : ∀ w ∈ ([[58], [120], [40], [45, 45], [41], [123], [91], [125], [93]] : List (List UInt8)), plainW w = true := by decide +kernel
  intro w hw
  apply h
  unfold nestW at hw
  rw [List.mem_append, List.mem_append, List.mem_replicate, List.mem_replicate] at hw
  obtain hw | ⟨_, rfl⟩ | ⟨_, rfl⟩ := hw
  · cases d <;> simp [headW] at hw
    obtain rfl | rfl | rfl | rfl | rfl := hw <;> decide
  · cases l <;> decide
  · cases l <;> decide
theorem plain_ascii {w : List UInt8} (h : plainW w = true) : w.all (fun c => decide (c.toNat < 128)) = true := by
  unfold plainW at h
  simp only [Bool.and_eq_true] at h
  have := h.1.1.1.1.1
  rw [List.all_eq_true] at this ⊢
  intro c hc
  have := this c hc
  simp only [Bool.and_eq_true] at this
  exact this.1
def nestTk (k : Nat) (l d : Bool) : List Tok := tokW 0 (nestW k l d) ++ if d then [⟨1, [59], 0, (nestEnd k d - 1 : Nat)⟩] else []
theorem nest_toks (k : Nat) (l d : Bool) (hk : k < 80) : tokensR (nestT k l d) = (nestTk k l d, 0, 0) := by
  have hl := nestT_length k l d
  have hf : faultR (nestT k l d) = none := by
    apply fault_ascii
    rw [nestT_eq, List.all_append, catW_ascii _ (fun w hw => plain_ascii (nestW_plain k l d w hw))]
    cases d <;> rfl
  unfold tokensR
  have he : nestEnd k d ≤ 4 * k + 12 := by unfold nestEnd; split <;> omega
  rw [if_neg (by omega), hf]
  dsimp only
  have hn : (nestW k l d).length ≤ 165 := by
    unfold nestW
    rw [List.length_append, List.length_append, List.length_replicate, List.length_replicate]
    have : (headW d).length ≤ 5 := by cases d <;> decide
    omega
  have h := toks_cat (nestT k l d).length (lastW d) (nestW k l d) 0 [] (nestW_plain k l d) (by simp; omega) (by rw [nestT_eq]; omega)
  rw [← nestT_eq, List.nil_append] at h
  rw [h]
  have ht : ∀ p ws, (tokW p ws).length = ws.length := by
    intro p ws
    induction ws generalizing p with
    | nil => rfl
    | cons w ws ih => simp [tokW, ih]
  cases d with
  | false => rw [nestTk, if_neg (by simp), List.append_nil]; rfl
  | true =>
    have hp : plainW [59] = true := by decide +kernel
    rw [lastW, if_pos rfl, toks_last _ _ _ hp (by rw [ht]; omega), hl, nestTk, if_pos rfl]; rfl
def nestR (k : Nat) (l d : Bool) : List FormT × Int × Int := finR (nestEnd k d) (formsR (nestEnd k d) ((nestTk k l d).length + 1) ⟨nestTk k l d, 0, 0⟩ [])
theorem nest_parse (k : Nat) (l d : Bool) (hk : k < 80) : parseR (nestT k l d) = nestR k l d := by
  unfold parseR readR nestR
  rw [nest_toks k l d hk, if_neg (by simp), nestT_length]
def nestOk (k : Nat) (d : Bool) (r : List FormT × Int × Int) : Bool :=
  if (if d then 31 else 32) < k then decide (r.2.2 = 11) && decide (r.2.1 = if d then 73 else 64) && decide (r.1.length = 0)
  else decide (r.2.2 = 0) && decide (r.2.1 = 0) && ((decide (k = 0) && !d && decide (r.1.length = 0)) || decide (r.1.length = 1))
theorem nest_1 : ∀ k < 40, ∀ l d, nestOk k d (nestR k l d) = true := by decide +kernel
theorem nest_2 : ∀ k < 40, ∀ l d, nestOk (40 + k) d (nestR (40 + k) l d) = true := by decide +kernel
theorem nest_ok (k : Nat) (l d : Bool) (hk : k < 80) : nestOk k d (parseR (nestT k l d)) = true := by
  rw [nest_parse k l d hk]
  by_cases h : k < 40
  · exact nest_1 k h l d
  · have := nest_2 (k - 40) (by omega) l d
    rwa [show 40 + (k - 40) = k by omega] at this
end Go.Proofs.YtbmplclnondfnaaDoor

namespace Go.Proofs.YtbmplclnondfnaaDoor
open Go Go.Av
theorem nestA_length (k : Nat) (l : Bool) : (nestA k l).length = 2 * k := by
  unfold nestA; rw [catW_rep]; cases l <;> simp [openW] <;> omega
theorem nestB_length (k : Nat) (l : Bool) (j : Nat) : (nestB k l j).length = 2 * k + 2 * j := by
  unfold nestB; rw [List.length_append, nestA_length, catW_rep]; cases l <;> simp [shutW] <;> omega
theorem nestB_zero (k : Nat) (l : Bool) : nestA k l = nestB k l 0 := by simp [nestB, catW]
theorem f_ParseNests (n : Int) (l d : Bool) (hn : 0 ≤ n ∧ n ≤ 255) : Av.Fn Tryd.prog 5 [.int .u8 n, .bool l, .bool d] (.bool true) := by
  obtain ⟨k, hk, hk80⟩ : ∃ k : Nat, n.tmod 80 = k ∧ k < 80 := ⟨(n.tmod 80).toNat, by rw [Int.tmod_eq_emod_of_nonneg hn.1]; omega, by rw [Int.tmod_eq_emod_of_nonneg hn.1]; omega⟩
  cases l
  · cases d
    · refine ACalls.of_W tb_ok (fn := Tryd.f5) (n := 92) (by kernel_rfl) rfl (by kernel_rfl) rfl rfl (by simp) (go ?_)
      refine Fn.use (f_awake07) (go ?_)
      refine VLoop.mk [10, 11] Nat (fun i => [.str (nestA i false), .int .i64 i]) (fun _ => []) (fun i => i ≤ k) (fun i => k - i) 0 ?_ ?_
      · exact ⟨by omega, rfl, .nil⟩
      intro i hik
      refine go ?_
      refine fork (fun hlt => go ?_) (fun hlt => go ?_)
      · have hl := nestA_length i false
        refine VGd.mk (by rw [hl]; simp; omega) (go ?_)
        refine ⟨i + 1, by omega, by omega, ?_, .nil⟩
        rw [nestA_succ]; rfl
      · obtain rfl : i = k := by omega
        refine VLoop.mk [10, 12] Nat (fun j => [.str (nestB i false j), .int .i64 j]) (fun _ => []) (fun j => j ≤ i) (fun j => i - j) 0 ?_ ?_
        · exact ⟨by omega, by rw [nestB_zero]; rfl, .nil⟩
        intro j hjk
        refine go ?_
        refine fork (fun hlt2 => go ?_) (fun hlt2 => go ?_)
        · have hl := nestB_length i false j
          refine VGd.mk (by rw [hl]; simp; omega) (go ?_)
          refine ⟨j + 1, by omega, by omega, ?_, .nil⟩
          rw [nestB_succ]; rfl
        · obtain rfl : j = i := by omega
          skip
          have fp := f_Parse (nestT j false false) (by rw [nestT_length]; simp [nestEnd]; omega)
          rw [show nestT j false false = nestB j false j from rfl] at fp
          have hok := nest_ok j false false hk80
          rw [show nestT j false false = nestB j false j from rfl] at hok
          generalize parseR (nestB j false j) = r at fp hok
          obtain ⟨F, p, e⟩ := r
          unfold nestOk at hok
          dsimp only at fp
          refine Fn.use (fp) (go ?_)
          refine fork (fun hm => go ?_) (fun hm => go ?_)
          · rw [if_pos (by simp; omega)] at hok
            simp only [Bool.and_eq_true, decide_eq_true_eq] at hok
            obtain ⟨⟨rfl, rfl⟩, hF⟩ := hok
            refine go ?_
            refine VRet.mk [] .nil ?_
            simp [hF]
          · rw [if_neg (by simp; omega)] at hok
            simp only [Bool.and_eq_true, decide_eq_true_eq] at hok
            obtain ⟨⟨rfl, rfl⟩, hF⟩ := hok
            simp only [Bool.or_eq_true, Bool.and_eq_true, decide_eq_true_eq] at hF
            refine go ?_
            repeat (refine fork (fun _ => go ?_) (fun _ => go ?_))
            all_goals first | (refine VRet.mk [] .nil ?_; focus (simp_all; done)) | (exfalso; focus (simp_all; done)) | (refine VRet.mk [] .nil ?_; have hF1 : F.length = 1 := (by omega); focus (simp [hF1]; done))
    · refine ACalls.of_W tb_ok (fn := Tryd.f5) (n := 92) (by kernel_rfl) rfl (by kernel_rfl) rfl rfl (by simp) (go ?_)
      refine Fn.use (f_awake07) (go ?_)
      refine VLoop.mk [10, 11] Nat (fun i => [.str (nestA i false), .int .i64 i]) (fun _ => []) (fun i => i ≤ k) (fun i => k - i) 0 ?_ ?_
      · exact ⟨by omega, rfl, .nil⟩
      intro i hik
      refine go ?_
      refine fork (fun hlt => go ?_) (fun hlt => go ?_)
      · have hl := nestA_length i false
        refine VGd.mk (by rw [hl]; simp; omega) (go ?_)
        refine ⟨i + 1, by omega, by omega, ?_, .nil⟩
        rw [nestA_succ]; rfl
      · obtain rfl : i = k := by omega
        refine VLoop.mk [10, 12] Nat (fun j => [.str (nestB i false j), .int .i64 j]) (fun _ => []) (fun j => j ≤ i) (fun j => i - j) 0 ?_ ?_
        · exact ⟨by omega, by rw [nestB_zero]; rfl, .nil⟩
        intro j hjk
        refine go ?_
        refine fork (fun hlt2 => go ?_) (fun hlt2 => go ?_)
        · have hl := nestB_length i false j
          refine VGd.mk (by rw [hl]; simp; omega) (go ?_)
          refine ⟨j + 1, by omega, by omega, ?_, .nil⟩
          rw [nestB_succ]; rfl
        · obtain rfl : j = i := by omega
          refine VGd.mk (by rw [nestB_length]; simp; omega) (go ?_); refine VGd.mk (by simp [nestB_length]; omega) (go ?_)
          have fp := f_Parse (nestT j false true) (by rw [nestT_length]; simp [nestEnd]; omega)
          rw [show nestT j false true = [58, 32, 120, 32, 40, 32, 45, 45, 32, 41, 32] ++ nestB j false j ++ [59] from rfl] at fp
          have hok := nest_ok j false true hk80
          rw [show nestT j false true = [58, 32, 120, 32, 40, 32, 45, 45, 32, 41, 32] ++ nestB j false j ++ [59] from rfl] at hok
          generalize parseR ([58, 32, 120, 32, 40, 32, 45, 45, 32, 41, 32] ++ nestB j false j ++ [59]) = r at fp hok
          obtain ⟨F, p, e⟩ := r
          unfold nestOk at hok
          dsimp only at fp
          refine Fn.use (fp) (go ?_)
          refine fork (fun hm => go ?_) (fun hm => go ?_)
          · rw [if_pos (by simp; omega)] at hok
            simp only [Bool.and_eq_true, decide_eq_true_eq] at hok
            obtain ⟨⟨rfl, rfl⟩, hF⟩ := hok
            refine go ?_
            refine VRet.mk [] .nil ?_
            simp [hF]
          · rw [if_neg (by simp; omega)] at hok
            simp only [Bool.and_eq_true, decide_eq_true_eq] at hok
            obtain ⟨⟨rfl, rfl⟩, hF⟩ := hok
            simp only [Bool.or_eq_true, Bool.and_eq_true, decide_eq_true_eq] at hF
            refine go ?_
            repeat (refine fork (fun _ => go ?_) (fun _ => go ?_))
            all_goals first | (refine VRet.mk [] .nil ?_; focus (simp_all; done)) | (exfalso; focus (simp_all; done)) | (refine VRet.mk [] .nil ?_; have hF1 : F.length = 1 := (by omega); focus (simp [hF1]; done))
  · cases d
    · refine ACalls.of_W tb_ok (fn := Tryd.f5) (n := 92) (by kernel_rfl) rfl (by kernel_rfl) rfl rfl (by simp) (go ?_)
      refine Fn.use (f_awake07) (go ?_)
      refine VLoop.mk [10, 11] Nat (fun i => [.str (nestA i true), .int .i64 i]) (fun _ => []) (fun i => i ≤ k) (fun i => k - i) 0 ?_ ?_
      · exact ⟨by omega, rfl, .nil⟩
      intro i hik
      refine go ?_
      refine fork (fun hlt => go ?_) (fun hlt => go ?_)
      · have hl := nestA_length i true
        refine VGd.mk (by rw [hl]; simp; omega) (go ?_)
        refine ⟨i + 1, by omega, by omega, ?_, .nil⟩
        rw [nestA_succ]; rfl
      · obtain rfl : i = k := by omega
        refine VLoop.mk [10, 12] Nat (fun j => [.str (nestB i true j), .int .i64 j]) (fun _ => []) (fun j => j ≤ i) (fun j => i - j) 0 ?_ ?_
        · exact ⟨by omega, by rw [nestB_zero]; rfl, .nil⟩
        intro j hjk
        refine go ?_
        refine fork (fun hlt2 => go ?_) (fun hlt2 => go ?_)
        · have hl := nestB_length i true j
          refine VGd.mk (by rw [hl]; simp; omega) (go ?_)
          refine ⟨j + 1, by omega, by omega, ?_, .nil⟩
          rw [nestB_succ]; rfl
        · obtain rfl : j = i := by omega
          skip
          have fp := f_Parse (nestT j true false) (by rw [nestT_length]; simp [nestEnd]; omega)
          rw [show nestT j true false = nestB j true j from rfl] at fp
          have hok := nest_ok j true false hk80
          rw [show nestT j true false = nestB j true j from rfl] at hok
          generalize parseR (nestB j true j) = r at fp hok
          obtain ⟨F, p, e⟩ := r
          unfold nestOk at hok
          dsimp only at fp
          refine Fn.use (fp) (go ?_)
          refine fork (fun hm => go ?_) (fun hm => go ?_)
          · rw [if_pos (by simp; omega)] at hok
            simp only [Bool.and_eq_true, decide_eq_true_eq] at hok
            obtain ⟨⟨rfl, rfl⟩, hF⟩ := hok
            refine go ?_
            refine VRet.mk [] .nil ?_
            simp [hF]
          · rw [if_neg (by simp; omega)] at hok
            simp only [Bool.and_eq_true, decide_eq_true_eq] at hok
            obtain ⟨⟨rfl, rfl⟩, hF⟩ := hok
            simp only [Bool.or_eq_true, Bool.and_eq_true, decide_eq_true_eq] at hF
            refine go ?_
            repeat (refine fork (fun _ => go ?_) (fun _ => go ?_))
            all_goals first | (refine VRet.mk [] .nil ?_; focus (simp_all; done)) | (exfalso; focus (simp_all; done)) | (refine VRet.mk [] .nil ?_; have hF1 : F.length = 1 := (by omega); focus (simp [hF1]; done))
    · refine ACalls.of_W tb_ok (fn := Tryd.f5) (n := 92) (by kernel_rfl) rfl (by kernel_rfl) rfl rfl (by simp) (go ?_)
      refine Fn.use (f_awake07) (go ?_)
      refine VLoop.mk [10, 11] Nat (fun i => [.str (nestA i true), .int .i64 i]) (fun _ => []) (fun i => i ≤ k) (fun i => k - i) 0 ?_ ?_
      · exact ⟨by omega, rfl, .nil⟩
      intro i hik
      refine go ?_
      refine fork (fun hlt => go ?_) (fun hlt => go ?_)
      · have hl := nestA_length i true
        refine VGd.mk (by rw [hl]; simp; omega) (go ?_)
        refine ⟨i + 1, by omega, by omega, ?_, .nil⟩
        rw [nestA_succ]; rfl
      · obtain rfl : i = k := by omega
        refine VLoop.mk [10, 12] Nat (fun j => [.str (nestB i true j), .int .i64 j]) (fun _ => []) (fun j => j ≤ i) (fun j => i - j) 0 ?_ ?_
        · exact ⟨by omega, by rw [nestB_zero]; rfl, .nil⟩
        intro j hjk
        refine go ?_
        refine fork (fun hlt2 => go ?_) (fun hlt2 => go ?_)
        · have hl := nestB_length i true j
          refine VGd.mk (by rw [hl]; simp; omega) (go ?_)
          refine ⟨j + 1, by omega, by omega, ?_, .nil⟩
          rw [nestB_succ]; rfl
        · obtain rfl : j = i := by omega
          refine VGd.mk (by rw [nestB_length]; simp; omega) (go ?_); refine VGd.mk (by simp [nestB_length]; omega) (go ?_)
          have fp := f_Parse (nestT j true true) (by rw [nestT_length]; simp [nestEnd]; omega)
          rw [show nestT j true true = [58, 32, 120, 32, 40, 32, 45, 45, 32, 41, 32] ++ nestB j true j ++ [59] from rfl] at fp
          have hok := nest_ok j true true hk80
          rw [show nestT j true true = [58, 32, 120, 32, 40, 32, 45, 45, 32, 41, 32] ++ nestB j true j ++ [59] from rfl] at hok
          generalize parseR ([58, 32, 120, 32, 40, 32, 45, 45, 32, 41, 32] ++ nestB j true j ++ [59]) = r at fp hok
          obtain ⟨F, p, e⟩ := r
          unfold nestOk at hok
          dsimp only at fp
          refine Fn.use (fp) (go ?_)
          refine fork (fun hm => go ?_) (fun hm => go ?_)
          · rw [if_pos (by simp; omega)] at hok
            simp only [Bool.and_eq_true, decide_eq_true_eq] at hok
            obtain ⟨⟨rfl, rfl⟩, hF⟩ := hok
            refine go ?_
            refine VRet.mk [] .nil ?_
            simp [hF]
          · rw [if_neg (by simp; omega)] at hok
            simp only [Bool.and_eq_true, decide_eq_true_eq] at hok
            obtain ⟨⟨rfl, rfl⟩, hF⟩ := hok
            simp only [Bool.or_eq_true, Bool.and_eq_true, decide_eq_true_eq] at hF
            refine go ?_
            repeat (refine fork (fun _ => go ?_) (fun _ => go ?_))
            all_goals first | (refine VRet.mk [] .nil ?_; focus (simp_all; done)) | (exfalso; focus (simp_all; done)) | (refine VRet.mk [] .nil ?_; have hF1 : F.length = 1 := (by omega); focus (simp [hF1]; done))
end Go.Proofs.YtbmplclnondfnaaDoor
