/- The calculus W over abstract values: definitions. Conditions: none; nothing is proved here. What the calculus leans on, and how a piece of code may end: definitions. Conditions: none. The calculus W: what is to be shown of a piece of code, as a proposition that whnf computes. Conditions: none; nothing is proved here. Laws of what abstract values stand for, and of the world's invariant. Conditions: as each says. Laws of the world's invariant: what new blocks, stores and draws do to it. Conditions: as each says. Soundness of W, first part: the table of types, the frame's slots, the plain operations. Conditions: as each says. Soundness of W, second part: operation by operation. Conditions: as each says. Soundness of W, third part: memory, conversions, interfaces. Conditions: as each says. -/
import Derived.Calls
import Derived.Below
import Derived.Shelf.Unicode.DecodeSlow
import Derived.Lib.Space
import Derived.Lib.LaidTab
import Derived.Lib.ItoaNum
import Derived.Laws.World
import Derived.Laws.Sem
import Derived.Laws.NewBlocks
import Derived.Laws.Cells
import Derived.Laws.Strings
import Derived.Laws.Slices
import Derived.Laws.Build
set_option linter.all false
set_option maxRecDepth 20000
namespace Go.Av
open Go

/-- Abstract values. 'fz': a slice whose cells are not written any more (also an empty one, nil or not); 'full': its capacity is its length; 'own': a slice from the head of an object of the store; 'fzp': a pointer to cells that are not written any more. -/
inductive AV where
  | bool (b : Bool)
  | int (k : IntKind) (n : Int)
  | str (l : List UInt8)
  | nilp
  | ptr (b o : Nat)
  | gp (b o : Nat)
  | fzp (cells : List AV)
  | nils
  | fz (cells : List AV) (len : Nat) (full : Bool)
  | own (b len : Nat)
  | sub (b o len : Nat)
  | nilm
  | mapr (b : Nat)
  | fn (f : Fn) (first captured : List AV)
  | nilf
  | iface (t : TypeId) (v : AV)
  | nili
  | agg (cells : List AV)
  | tup (vs : List AV)
  deriving Inhabited

/-- Is it the value of one cell? -/
def AV.one : AV → Bool
  | .agg _ | .tup _ => false
  | _ => true

inductive AObj where
  | box (cells : List AV)
  | arr (esz : Nat) (cells : List AV) (z : Nat)
  | map (ents : List (AV × AV))
  | siter (s : List UInt8) (pos : Nat)
  | mapS (ents : List (AV × AV)) (bs : List Nat) (clock : Nat)
  | miter (m : Nat) (since : Nat) (seen : List Nat) (last : Nat)

abbrev Env := List (Nat × AV)
abbrev St := List (Nat × AObj)

def Env.get (t : Nat) (k : AV → Prop) : Env → Prop
  | [] => False
  | (s, v) :: r => match Nat.beq s t with
    | true => k v
    | false => Env.get t k r

/-- A field: its first cell, how many cells, is it a struct? and its type. -/
structure FI where
  off : Nat
  size : Nat
  agg : Bool
  ty : TypeId

inductive TyK where
  | bool | int (k : IntKind) | str | ptr (e : TypeId) | slice (e : TypeId) | map (k e : TypeId) | struct (fs : List FI) | iface | func | other

/-- 'plain': two values of it can be compared cell by cell. -/
structure TyI where
  kind : TyK
  size : Nat
  bytes : Nat
  zero : List AV
  plain : Bool := false
  arr : Option (Nat × TypeId) := none

abbrev Tab := List (Nat × TyI)
def Tab.get (t : Nat) (k : TyI → Prop) : Tab → Prop
  | [] => False
  | (s, v) :: r => match Nat.beq s t with
    | true => k v
    | false => Tab.get t k r

def valK (v : Value) (k : AV → Prop) : Prop :=
  match v with
  | .bool b => k (.bool b)
  | .int kd n => k (.int kd n)
  | .string ⟨⟨l⟩⟩ => k (.str l)
  | .pointer none => k .nilp
  | .slice none 0 0 => k .nils
  | .map none => k .nilm
  | .nilFunc => k .nilf
  | .nilIface => k .nili
  | .tuple ⟨[]⟩ => k (.tup [])
  | _ => False

def evalK (env : Env) (x : Operand) (k : AV → Prop) : Prop :=
  match x with
  | .tmp t => env.get t k
  | .const v => valK v k
  | .func f => k (.fn (.func f) [] [])
  | .global g => k (.gp g 0)

def evalsK (env : Env) (xs : List Operand) (k : List AV → Prop) : Prop :=
  match xs with
  | [] => k []
  | x :: r => evalK env x fun v => evalsK env r fun vs => k (v :: vs)

/-! The heads at which whnf stops. -/

structure VIf (b : Bool) (A B : Prop) : Prop where
  t : b = true → A
  f : b = false → B
theorem VIf.tt {A B : Prop} (h : A) : VIf true A B := .mk (fun _ => h) (fun e => absurd e (by decide))
theorem VIf.ff {A B : Prop} (h : B) : VIf false A B := .mk (fun e => absurd e (by decide)) (fun _ => h)
inductive VInt (lo hi r wr : Int) (A : Int → Prop) : Prop
  | fit (h1 : lo ≤ r) (h2 : r ≤ hi) (h : A r)
  | wrap (h : A wr)
inductive VIdx (i : Int) (n : Nat) (A : Nat → Prop) : Prop
  | mk (h1 : 0 ≤ i) (h2 : i < n) (h : A i.toNat)
theorem VIdx.at {i : Int} {n : Nat} {A : Nat → Prop} (j : Nat) (h0 : i = (j : Int)) (h1 : j < n) (h : A j) : VIdx i n A :=
  .mk (by omega) (by omega) (by rw [h0, Int.toNat_natCast]; exact h)
inductive VNth (l : List AV) (i : Nat) (A : AV → Prop) : Prop
  | mk (v : AV) (h1 : l[i]? = some v) (h : A v)
inductive VOne (v : AV) (A : Prop) : Prop
  | mk (h1 : v.one = true) (h : A)
structure VAll (A : Nat → Prop) : Prop where
  all : ∀ b, A b
inductive VObj (st : St) (b : Nat) (A : Nat → AObj → Prop) : Prop
  | mk (n : Nat) (o : AObj) (h1 : st[n]? = some (b, o)) (h : A n o)
/-- Slices of one's own among values become such as are not written any more. -/
inductive VFz : List AV → St → (List AV → St → Prop) → Prop
  | nil {st K} (h : K [] st) : VFz [] st K
  | keep {v r st K} (h : VFz r st fun vs st' => K (v :: vs) st') : VFz (v :: r) st K
  | nils {r st K} (h : VFz r st fun vs st' => K (.fz [] 0 false :: vs) st') : VFz (.nils :: r) st K
  | full {cells n r st K} (h : VFz r st fun vs st' => K (.fz cells n false :: vs) st') : VFz (.fz cells n true :: r) st K
  | own {b m r st K} (n esz : Nat) (cells : List AV) (z : Nat) (h1 : st[n]? = some (b, .arr esz cells z)) (h2 : m * esz ≤ cells.length)
      (h : VFz r (st.set n (b, .arr esz cells (max z (m * esz)))) fun vs st' => K (.fz (cells.take (m * esz)) m false :: vs) st') : VFz (.own b m :: r) st K
inductive AOut where
  | ret (v : AV)
  | panic (v : AV)
inductive AExit where
  | normal | exit (id : Nat) | goto (l : Nat) | ret | panic (v : AV)

def intK (k : IntKind) (r : Int) (A : Int → Prop) : Prop :=
  match k with
  | .i64 => VInt (-9223372036854775808) 9223372036854775807 r (IntKind.i64.wrap r) A
  | .i32 => VInt (-2147483648) 2147483647 r (IntKind.i32.wrap r) A
  | .u8 => VInt 0 255 r (IntKind.u8.wrap r) A
  | .u32 => VInt 0 4294967295 r (IntKind.u32.wrap r) A
  | .u64 => VInt 0 18446744073709551615 r (IntKind.u64.wrap r) A
  | k => A (k.wrap r)


inductive VGd (p A : Prop) : Prop
  | mk (h : p) (k : A)
/-- Some objects of a store, in any order. -/
inductive VSel : St → St → Prop
  | nil {st} : VSel [] st
  | cons {x r st} (i : Nat) (h : st[i]? = some x) (k : VSel r (st.eraseIdx i)) : VSel (x :: r) st

/-! ### What abstract values stand for -/

/-- Ghosts: cells that are not written any more; the capacities of objects. -/
structure Gh where
  μ : Nat → Nat → Option Value
  κ : Nat → Option Nat

def Gh.le (g h : Gh) : Prop := (∀ b o u, g.μ b o = some u → h.μ b o = some u) ∧ ∀ b n, g.κ b = some n → h.κ b = some n

mutual
def Rel (g : Gh) : AV → Value → Prop
  | .bool b, v => v = .bool b
  | .int k n, v => v = .int k n
  | .str l, v => v = .string ⟨⟨l⟩⟩
  | .nilp, v => v = .pointer none
  | .ptr b o, v => v = .pointer (some ⟨b, o, none⟩)
  | .gp b o, v => v = .pointer (some ⟨b, o, none⟩)
  | .fzp cells, v => ∃ b o, v = .pointer (some ⟨b, o, none⟩) ∧ Cells g b o cells
  | .nils, v => v = .slice none 0 0
  | .fz cells len full, v => ∃ a cap, v = .slice a len cap ∧ len ≤ cap ∧ (full = true → cap = len) ∧
      ((cap = 0 ∧ cells = []) ∨ ∃ b o, a = some ⟨b, o, none⟩ ∧ Cells g b o cells)
  | .own b len, v => ∃ cap, v = .slice (some ⟨b, 0, none⟩) len cap ∧ g.κ b = some cap ∧ len ≤ cap
  | .sub b o len, v => ∃ cap, v = .slice (some ⟨b, o, none⟩) len cap ∧ len ≤ cap
  | .nilm, v => v = .map none
  | .mapr b, v => v = .map (some b)
  | .fn f first cap, v => ∃ us ws, v = .func f ⟨us⟩ ⟨ws⟩ ∧ RelL g false first us ∧ RelL g false cap ws
  | .nilf, v => v = .nilFunc
  | .iface t x, v => ∃ u, v = .iface t u ∧ Rel g x u
  | .nili, v => v = .nilIface
  | .agg cells, v => ∃ us, v = .agg ⟨us⟩ ∧ RelL g true cells us
  | .tup cells, v => ∃ us, v = .tuple ⟨us⟩ ∧ RelL g false cells us
def RelL (g : Gh) (q : Bool) : List AV → List Value → Prop
  | [], us => us = []
  | c :: r, us => ∃ u ws, us = u :: ws ∧ (Rel g c u ∧ (q = true → u.oneCell' = true)) ∧ RelL g q r ws
def Cells (g : Gh) (b o : Nat) : List AV → Prop
  | [] => True
  | c :: r => (∃ u, g.μ b o = some u ∧ Rel g c u ∧ u.oneCell' = true) ∧ Cells g b (o + 1) r
end

def RelE (g : Gh) : List (AV × AV) → List MapEntry → Prop
  | [], es => es = []
  | x :: r, es => ∃ e ws, es = e :: ws ∧ Rel g x.1 e.key ∧ Rel g x.2 e.val ∧ RelE g r ws

def ObjR (g : Gh) (w : World) (b : Nat) : AObj → Prop
  | .box cells => ∃ us T lo hi, w.heap[b]? = some (.cells ⟨us⟩ T (lo, hi)) ∧ RelL g true cells us ∧ (∀ i, i < us.length → ¬ (lo ≤ i ∧ i < hi)) ∧ ∀ o, g.μ b o = none
  | .arr esz cells z => ∃ us vs T lo hi cap, w.heap[b]? = some (.cells ⟨us ++ vs⟩ T (lo, hi)) ∧ RelL g true cells us ∧ (∀ i, i < (us ++ vs).length → ¬ (lo ≤ i ∧ i < hi)) ∧
      g.κ b = some cap ∧ (us ++ vs).length = cap * esz ∧ ∀ o, z ≤ o → g.μ b o = none
  | .map ents => ∃ es clock, w.heap[b]? = some (.map ⟨es⟩ clock) ∧ RelE g ents es ∧ (∀ e ∈ es, e.born < clock) ∧ (es.map (·.born)).Nodup
  | .siter s pos => w.heap[b]? = some (.stringIter ⟨⟨s⟩⟩ pos)
  | .mapS ents bs clock => ∃ es, w.heap[b]? = some (.map ⟨es⟩ clock) ∧ RelE g ents es ∧ es.map (·.born) = bs ∧ (∀ x ∈ bs, x < clock) ∧ bs.Nodup
  | .miter m since seen last => w.heap[b]? = some (.mapIter (some m) since ⟨seen⟩ last)

/-- What holds of the world: 'W' is the world in which all began. -/
structure Inv (W : World) (g : Gh) (st : St) (w : World) : Prop where
  mem : ∀ b o u, g.μ b o = some u → w.cell? ⟨b, o, none⟩ = some u
  obj : ∀ x ∈ st, ObjR g w x.1 x.2
  nodup : (st.map (·.1)).Nodup
  low : ∀ x ∈ st, W.heap.size ≤ x.1
  cap : ∀ b n, g.κ b = some n → b < w.heap.size
  below : RowKit.Below W.heap.size W w

def OutR (g : Gh) : AOut → Ending → Prop
  | .ret v, e => ∃ u, e = .returned u ∧ Rel g v u
  | .panic v, e => ∃ u, e = .panicked [{ v := u, recovered := false }] ∧ Rel g v u

def slash : String := String.singleton (Char.ofNat 47)
/-- Tables of Go's library, laid. -/
def Lay (P : Program) (W : World) : Prop :=
  (∀ a b, P.globalNamed ("unicode" ++ slash ++ "utf8.first") = some a → P.globalNamed ("unicode" ++ slash ++ "utf8.acceptRanges") = some b → Lib.Utf8Tabs a b W) ∧
  (∀ a, P.globalNamed "strings.asciiSpace" = some a → Lib.TabIs P W "strings.asciiSpace" .u8 Lib.asciiSpaceTab) ∧
  ∀ a, P.globalNamed ("internal" ++ slash ++ "strconv.uint64pow10") = some a → Lib.TabIs P W ("internal" ++ slash ++ "strconv.uint64pow10") .u64 Lib.pow10Tab

/-- A call, at abstract arguments and some objects of the store: how it ends, and what has become of those objects; all others are as they were. -/
structure ACalls (P : Program) (f : FuncId) (args : List AV) (st : St) (Post : AOut → St → Prop) : Prop where
  ent : ∃ fn, P.funcs[f]? = some fn ∧ fn.body.isSome = true ∧ (fn.name == "runtime.NumGoroutine") = false
  run : ∀ (W : World) (F : St) (g : Gh) (w : World) (us : List Value), Lay P W → RelL g false args us → Inv W g (st ++ F) w →
    Calls P f ⟨us⟩ w fun e w' => ∃ g' out st', Gh.le g g' ∧ OutR g' out e ∧ Inv W g' (st' ++ F) w' ∧ Post out st'

end Go.Av

namespace Go.Av
open Go

def memN (n : Nat) : List Nat → Bool
  | [] => false
  | m :: r => match Nat.beq m n with
    | true => true
    | false => memN n r
def Env.look (t : Nat) : Env → Option AV
  | [] => none
  | (s, v) :: r => if s = t then some v else Env.look t r
def relB : AV → Value → Bool
  | .bool a, .bool b => a == b
  | .int k a, .int j b => k == j && a == b
  | .str [], .string ⟨⟨[]⟩⟩ => true
  | .nilp, .pointer none => true
  | .nils, .slice none 0 0 => true
  | .nilm, .map none => true
  | .nilf, .nilFunc => true
  | .nili, .nilIface => true
  | _, _ => false
def relBs : List AV → List Value → Bool
  | [], [] => true
  | a :: l, v :: r => relB a v && relBs l r
  | _, _ => false
def aggT (P : Program) (t : TypeId) : Bool := match P.underlying t with
  | some (.struct _) | some (.array _ _) => true
  | _ => false
def fieldB (P : Program) (f : FI) (x : Field) : Bool :=
  f.off == x.offset && f.ty == x.type && x.name != "_" && (match P.info? x.type with | some i => i.size == f.size | none => false) && f.agg == aggT P x.type && (P.underlying x.type).isSome
def fieldsB (P : Program) : List FI → List Field → Bool
  | [], [] => true
  | f :: l, x :: r => fieldB P f x && fieldsB P l r
  | _, _ => false
def kindB (P : Program) (t : TypeId) (k : TyK) : Bool :=
  match k, P.underlying t with
  | .bool, some .bool => true
  | .int k, some (.int j) => k == j
  | .str, some .string => true
  | .ptr e, some (.pointer e') => e == e'
  | .slice e, some (.slice e') => e == e'
  | .map k e, some (.map k' e') => k == k' && e == e'
  | .struct fs, some (.struct xs) => fieldsB P fs xs.toList
  | .iface, some (.interface _) => true
  | .func, some (.func _ _ _) => true
  | .other, _ => true
  | _, _ => false
def zeroB (ti : TyI) (z : Value) : Bool :=
  match ti.kind with
  | .struct _ => match z with
    | .agg ⟨us⟩ => relBs ti.zero us && ti.zero.length == ti.size
    | _ => false
  | .other => true
  | _ => match ti.zero with
    | [a] => relB a z && ti.size == 1
    | _ => false
def tyB (P : Program) (t : TypeId) (ti : TyI) : Bool :=
  kindB P t ti.kind && (match P.info? t with
    | some i => i.size == ti.size && i.bytes == ti.bytes && (match i.zero with | some z => zeroB ti z | none => false)
    | none => false) && (!ti.plain || (!P.eqGuardType P.depth t && !P.stoodInHeld t && (match P.info? t with | some i => i.comparable | none => false))) && Nat.ble ti.bytes 1073741824 && (match ti.arr with | none => true | some x => (match P.underlying t with | some (.array n e) => n == x.1 && e == x.2 | _ => false))
def tabB (P : Program) : Tab → Bool
  | [] => true
  | x :: r => tyB P x.1 x.2 && tabB P r
/-- The table tells the program's types. -/
def TabOk (P : Program) (tb : Tab) : Prop := tabB P tb = true

structure EnvR (n : Nat) (g : Gh) (env : Env) (a : Act) : Prop where
  size : a.tmps.size = n
  look : ∀ t v, env.look t = some v → ∃ u, a.tmps[t]? = some u ∧ Rel g v u
/-- Facts on the program that the calculus leans on. -/
structure ProgOk (P : Program) (tb : Tab) : Prop where
  tab : TabOk P tb
  rt : ∃ e, P.underlying P.rt.typeAssertionError = some (.pointer e)
  mixed : P.follows .mixedOrders = true

/-- .. and on the world in which all began. -/
structure ProgAt (P : Program) (tb : Tab) (W : World) : Prop extends ProgOk P tb where
  lay : Lay P W

/-- The slots outside a list are as they were, and so is what is deferred. -/
structure Same (ws : List Nat) (a a' : Act) : Prop where
  tmps : ∀ t, memN t ws = false → a'.tmps[t]? = a.tmps[t]?
  defers : a'.defers = a.defers
def ExitR (g : Gh) : AExit → Exit → Prop
  | .normal, e => e = .normal
  | .exit id, e => e = .exit id
  | .goto l, e => e = .goto l
  | .ret, e => e = .ret
  | .panic v, e => ∃ u, e = .panic [{ v := u, recovered := false }] ∧ Rel g v u

/-- How a piece of code may end. -/
def PostC (W : World) (n : Nat) (F : St) (g : Gh) (ws : List Nat) (a : Act) (Q : AExit → Env → St → Prop) (e : Exit) (a' : Act) (w' : World) : Prop :=
  ∃ g' ae env' st', Gh.le g g' ∧ ExitR g' ae e ∧ EnvR n g' env' a' ∧ Inv W g' (st' ++ F) w' ∧ Same ws a a' ∧ Q ae env' st'


/-- The post of code, as a statement of the machine. -/
structure VSem (P : Program) (tb : Tab) (n : Nat) (ws : List Nat) (c : Code) (Q : AExit → Env → St → Prop) (env : Env) (st : St) : Prop where
  sem : ∀ (W : World) (F : St) (g : Gh) (a : Act) (w : World), ProgAt P tb W → EnvR n g env a → Inv W g (st ++ F) w → c.wp P (PostC W n F g ws a Q) a w
end Go.Av

namespace Go.Av
open Go

def nthK (l : List AV) (n : Nat) (k : AV → Prop) : Prop :=
  match l with
  | [] => False
  | x :: r => match n with
    | 0 => k x
    | n + 1 => nthK r n k
def nthF (l : List FI) (n : Nat) (k : FI → Prop) : Prop :=
  match l with
  | [] => False
  | x :: r => match n with
    | 0 => k x
    | n + 1 => nthF r n k
def setK (l : List AV) (n : Nat) (v : AV) (k : List AV → Prop) : Prop :=
  match l with
  | [] => False
  | x :: r => match n with
    | 0 => k (v :: r)
    | n + 1 => setK r n v fun l => k (x :: l)
/-- Several cells from a place on. -/
def splK (l : List AV) (n : Nat) (vs : List AV) (k : List AV → Prop) : Prop :=
  match vs with
  | [] => k l
  | v :: r => setK l n v fun l => splK l (n + 1) r k
def lenK (l : List AV) (k : Nat → Prop) : Prop :=
  match l with
  | [] => k 0
  | _ :: r => lenK r fun n => k (n + 1)
def stSetK (l : St) (n : Nat) (v : Nat × AObj) (k : St → Prop) : Prop :=
  match l with
  | [] => False
  | x :: r => match n with
    | 0 => k (v :: r)
    | n + 1 => stSetK r n v fun l => k (x :: l)
def stDelK (l : St) (n : Nat) (k : St → Prop) : Prop :=
  match l with
  | [] => False
  | x :: r => match n with
    | 0 => k r
    | n + 1 => stDelK r n fun l => k (x :: l)
def mulN (j esz : Nat) : Nat := match esz with
  | 1 => j
  | e => j * e
/-- A value as the cells of a variable of a type. -/
def cellsK (ti : TyI) (v : AV) (k : List AV → Prop) : Prop :=
  match ti.kind with
  | .struct _ => match v with
    | .agg cs => lenK cs fun n => match Nat.beq n ti.size with
      | true => k cs
      | false => False
    | _ => False
  | .other => False
  | _ => VOne v (k [v])
inductive VTake (l : List AV) (o n : Nat) (A : List AV → Prop) : Prop
  | mk (cs : List AV) (h : (l.drop o).take n = cs) (hn : cs.length = n) (k : A cs)
/-- Load from cells. -/
def loadK (ti : TyI) (l : List AV) (o : Nat) (k : AV → Prop) : Prop :=
  match ti.kind with
  | .struct _ => VTake l o ti.size fun cs => k (.agg cs)
  | .other => False
  | _ => VNth l o k
def zeroK (ti : TyI) (k : AV → Prop) : Prop :=
  match ti.kind with
  | .struct _ => k (.agg ti.zero)
  | .other => False
  | _ => nthK ti.zero 0 k
/-- Are structs of plain fields the same? -/
def eqF (tb : Tab) (fs : List FI) (o : Nat) (xs ys : List AV) (k : Bool → Prop) : Prop :=
  match fs with
  | [] => k true
  | f :: fs => match xs with
    | [] => False
    | x :: xs => match ys with
      | [] => False
      | y :: ys => match Nat.beq f.off o with
        | false => False
        | true => match f.agg with
          | true => False
          | false => tb.get f.ty fun ti => match ti.kind with
            | .int _ => match x, y with
              | .int kd a, .int kd' b => VGd (kd = kd') (eqF tb fs (o + 1) xs ys fun r => k (decide (a = b) && r))
              | _, _ => False
            | .str => match x, y with
              | .str a, .str b => eqF tb fs (o + 1) xs ys fun r => k (decide (a = b) && r)
              | _, _ => False
            | .bool => match x, y with
              | .bool a, .bool b => eqF tb fs (o + 1) xs ys fun r => k (decide (a = b) && r)
              | _, _ => False
            | _ => False

def intBin (op : BinOp) (kd : IntKind) (a b : Int) (k : AV → Prop) : Prop :=
  match op with
  | .add => intK kd (a + b) fun r => k (.int kd r)
  | .sub => intK kd (a - b) fun r => k (.int kd r)
  | .mul => intK kd (a * b) fun r => k (.int kd r)
  | .quo => VGd (b ≠ 0) (intK kd (a.tdiv b) fun r => k (.int kd r))
  | .rem => VGd (b ≠ 0) (k (.int kd (a.tmod b)))
  | .lss => k (.bool (decide (a < b)))
  | .leq => k (.bool (decide (a ≤ b)))
  | .gtr => k (.bool (decide (b < a)))
  | .geq => k (.bool (decide (b ≤ a)))
  | .eql => k (.bool (decide (a = b)))
  | .neq => k (.bool (!decide (a = b)))
  | .and => k (.int kd (kd.wrap ((BitVec.ofInt kd.bits a &&& BitVec.ofInt kd.bits b).toNat)))
  | .or => k (.int kd (kd.wrap ((BitVec.ofInt kd.bits a ||| BitVec.ofInt kd.bits b).toNat)))
  | _ => False
def strBin (op : BinOp) (a b : List UInt8) (k : AV → Prop) : Prop :=
  match op with
  | .add => VGd (a.length + b.length ≤ 9223372036854775807) (k (.str (a ++ b)))
  | .eql => k (.bool (decide (a = b)))
  | .neq => k (.bool (!decide (a = b)))
  | .lss => k (.bool (Op.bytesLess a b))
  | .leq => k (.bool (Op.bytesLess a b || decide (a = b)))
  | .gtr => k (.bool (!(Op.bytesLess a b || decide (a = b))))
  | .geq => k (.bool (!Op.bytesLess a b))
  | _ => False
def negK (op : BinOp) (r : Bool) (k : AV → Prop) : Prop :=
  match op with
  | .eql => k (.bool r)
  | .neq => k (.bool (!r))
  | _ => False
def isConst (x : Operand) : Bool := match x with
  | .const _ => true
  | _ => false
/-- '==' and '!=' of what is neither number nor text. -/
def structK (k : TyK) (f : List FI → Prop) : Prop :=
  TyK.rec (motive := fun _ => Prop) False (fun _ => False) False (fun _ => False) (fun _ => False) (fun _ _ => False) (fun fs => f fs) False False False k
theorem structK_spec {k : TyK} {f : List FI → Prop} (h : structK k f) : ∃ fs, k = .struct fs ∧ f fs := by
  cases k <;> first | exact ⟨_, rfl, h⟩ | exact False.elim h
def aggB : AV → Bool
  | .agg _ => true
  | _ => false
def aggL : AV → List AV
  | .agg l => l
  | _ => []
def aggK (v : AV) (f : List AV → Prop) : Prop :=
  match aggB v with
  | true => f (aggL v)
  | false => False
theorem aggK_spec {v : AV} {f : List AV → Prop} (h : aggK v f) : ∃ l, v = .agg l ∧ f l := by
  cases v <;> first | exact ⟨_, rfl, h⟩ | exact False.elim h
/-- A place in an array that is one's own, or a table's. -/
def arrK (v : AV) (f g : Nat → Nat → Prop) : Prop :=
  match isPtrB v with
  | 0 => False
  | 1 => f (ptrB v) (ptrO v)
  | _ => g (ptrB v) (ptrO v)
where
  isPtrB : AV → Nat
    | .gp _ _ => 1
    | .ptr _ _ => 2
    | _ => 0
  ptrB : AV → Nat
    | .gp b _ => b
    | .ptr b _ => b
    | _ => 0
  ptrO : AV → Nat
    | .gp _ o => o
    | .ptr _ o => o
    | _ => 0
theorem arrK_spec {v : AV} {f g : Nat → Nat → Prop} (h : arrK v f g) : (∃ b o, v = .gp b o ∧ f b o) ∨ (∃ b o, v = .ptr b o ∧ g b o) := by
  cases v <;> first | exact .inl ⟨_, _, rfl, h⟩ | exact .inr ⟨_, _, rfl, h⟩ | exact False.elim h
def eqBin (tb : Tab) (op : BinOp) (t : TypeId) (ox oy : Operand) (x y : AV) (k : AV → Prop) : Prop :=
  tb.get t fun ti => match ti.kind with
  | .bool => match x, y with
    | .bool a, .bool b => negK op (decide (a = b)) k
    | _, _ => False
  | .struct fs => match x, y with
    | .agg xs, .agg ys => match ti.plain with
      | true => eqF tb fs 0 xs ys fun r => negK op r k
      | false => False
    | _, _ => False
  | .ptr _ => match x, y with
    | .nilp, .nilp => negK op true k
    | .nilp, .ptr _ _ => negK op false k
    | .ptr _ _, .nilp => negK op false k
    | _, _ => False
  | .iface => match x, y with
    | .nili, .nili => match isConst ox with
      | true => negK op true k
      | false => match isConst oy with
        | true => negK op true k
        | false => False
    | .nili, .iface _ _ => negK op false k
    | .iface _ _, .nili => negK op false k
    | .iface t1 v, .iface t2 w => match Nat.beq t1 t2 with
      | true => tb.get t1 fun t1i => structK t1i.kind fun fs => match t1i.plain with
        | true => aggK v fun xs => aggK w fun ys => eqF tb fs 0 xs ys fun r => negK op r k
        | false => False
      | false => negK op false k
    | _, _ => False
  | .slice _ => match x, y with
    | .nils, .nils => negK op true k
    | .nils, .own _ _ => negK op false k
    | .own _ _, .nils => negK op false k
    | .fz _ n _, .nils => VGd (0 < n) (negK op false k)
    | .nils, .fz _ n _ => VGd (0 < n) (negK op false k)
    | _, _ => False
  | .map _ _ => match x, y with
    | .nilm, .nilm => negK op true k
    | .nilm, .mapr _ => negK op false k
    | .mapr _, .nilm => negK op false k
    | _, _ => False
  | .func => match x, y with
    | .nilf, .nilf => negK op true k
    | .nilf, .fn _ _ _ => negK op false k
    | .fn _ _ _, .nilf => negK op false k
    | _, _ => False
  | _ => False
def binK (tb : Tab) (op : BinOp) (t : TypeId) (ox oy : Operand) (x y : AV) (k : AV → Prop) : Prop :=
  match x with
  | .int kd a => match y with
    | .int kd' b => match op with
      | .shl => VGd (0 ≤ b) (intK kd (a * 2 ^ (min b.toNat kd.bits)) fun r => k (.int kd r))
      | .shr => VGd (0 ≤ b) (k (.int kd (a.fdiv (2 ^ (min b.toNat kd.bits)))))
      | op => VGd (kd = kd') (intBin op kd a b k)
    | _ => False
  | .str a => match y with
    | .str b => strBin op a b k
    | _ => False
  | x => eqBin tb op t ox oy x y k

def fillK (fs : List FI) (parts : List (Nat × AV)) (cells : List AV) (k : List AV → Prop) : Prop :=
  match parts with
  | [] => k cells
  | p :: r => nthF fs p.1 fun fi => match fi.agg with
    | true => match p.2 with
      | .agg cs => match cs with
        | [] => False
        | c :: cs => lenK (c :: cs) fun n => match Nat.beq n fi.size with
          | true => splK cells fi.off (c :: cs) fun cells => fillK fs r cells k
          | false => False
      | _ => False
    | false => match Nat.beq fi.size 1 with
      | true => VOne p.2 (setK cells fi.off p.2 fun cells => fillK fs r cells k)
      | false => False
def partsK (env : Env) (ps : List (Nat × Operand)) (k : List (Nat × AV) → Prop) : Prop :=
  match ps with
  | [] => k []
  | p :: r => evalK env p.2 fun v => partsK env r fun vs => k ((p.1, v) :: vs)
/-- Parts that stand in order, from a number on. -/
def rowK (env : Env) (ti : TyI) (ps : List (Nat × Operand)) (n : Nat) (k : List AV → Nat → Prop) : Prop :=
  match ps with
  | [] => k [] n
  | p :: r => match Nat.beq p.1 n with
    | true => evalK env p.2 fun v => cellsK ti v fun cs => rowK env ti r (n + 1) fun l m => k (cs ++ l) m
    | false => False

def intOfK (v : AV) (k : Int → Prop) : Prop := match v with
  | .int _ n => k n
  | _ => False

/-- x[lo:hi] of a text. -/
def strSl (env : Env) (l : List UInt8) (lo hi : Option Operand) (k : List UInt8 → Prop) : Prop :=
  match lo with
  | none => match hi with
    | none => k l
    | some hi => evalK env hi fun h => intOfK h fun h => VIdx h (l.length + 1) fun j => k (l.take j)
  | some lo => match hi with
    | none => evalK env lo fun i => intOfK i fun i => VIdx i (l.length + 1) fun j => k (l.drop j)
    | some hi => evalK env hi fun h => intOfK h fun h => VIdx h (l.length + 1) fun j => evalK env lo fun i => intOfK i fun i => VIdx i (j + 1) fun i => k ((l.take j).drop i)

def loB (env : Env) (h : Nat) (f : Bool) (lo : Option Operand) (k : Option Nat → Nat → Bool → Prop) : Prop :=
  match lo with
  | none => k none h f
  | some lo => evalK env lo fun i => intOfK i fun i => VIdx i (h + 1) fun i => k (some i) h f
/-- The bounds of x[lo:hi:max] of a slice of so many elements; 'full': the capacity ends there. -/
def slB (env : Env) (n : Nat) (lo hi mx : Option Operand) (k : Option Nat → Nat → Bool → Prop) : Prop :=
  match hi with
  | none => match mx with
    | none => loB env n false lo k
    | some _ => False
  | some hi => evalK env hi fun h => intOfK h fun h => VIdx h (n + 1) fun j => match mx with
    | none => loB env j false lo k
    | some mx => evalK env mx fun m => intOfK m fun m => VGd (m = h) (loB env j true lo k)

def cutK (te : TyI) (cells : List AV) (i : Option Nat) (h : Nat) (f : Bool) (st : St) (K : AV → St → Prop) : Prop :=
  match i with
  | none => K (.fz (cells.take (mulN h te.size)) h f) st
  | some i => K (.fz ((cells.take (mulN h te.size)).drop (mulN i te.size)) (h - i) f) st
def ownCut (te : TyI) (st : St) (b : Nat) (i : Option Nat) (h : Nat) (f : Bool) (K : AV → St → Prop) : Prop :=
  VObj st b fun m o => match o with
    | .arr esz cells z => VGd (esz = te.size ∧ mulN h te.size ≤ cells.length) (stSetK st m (b, .arr esz cells (max z (mulN h te.size))) fun st => cutK te cells i h f st K)
    | _ => False
/-- A part of a slice of one's own: not written any more, or a place to copy to. -/
inductive VCut (A B : Prop) : Prop
  | cut (h : A)
  | sub (h : B)
def ownW (te : TyI) (st : St) (b : Nat) (i : Option Nat) (h : Nat) (f : Bool) (K : AV → St → Prop) : Prop :=
  match i with
  | none => match f with
    | false => K (.own b h) st
    | true => ownCut te st b none h true K
  | some i => match f with
    | false => VCut (ownCut te st b (some i) h false K) (VGd (i < h) (K (.sub b (mulN i te.size) (h - i)) st))
    | true => ownCut te st b (some i) h true K
def sliceW (tb : Tab) (t : TypeId) (env : Env) (st : St) (x : AV) (lo hi mx : Option Operand) (K : AV → St → Prop) : Prop :=
  tb.get t fun ti => match ti.kind with
  | .str => match x with
    | .str l => match mx with
      | none => strSl env l lo hi fun l => K (.str l) st
      | some _ => False
    | _ => False
  | .slice e => tb.get e fun te => match x with
    | .nils => slB env 0 lo hi mx fun _ _ _ => K .nils st
    | .fz cells n _ => slB env n lo hi mx fun i h f => cutK te cells i h f st K
    | .own b n => slB env n lo hi mx fun i h f => ownW te st b i h f K
    | _ => False
  | _ => False

/-- The cells of what is appended. -/
def srcK (st : St) (esz : Nat) (x : AV) (k : List AV → Nat → Prop) : Prop :=
  match x with
  | .nils => k [] 0
  | .fz cells n _ => VGd (cells.length = mulN n esz) (k cells n)
  | .own b n => VObj st b fun _ o => match o with
    | .arr e cells _ => VGd (e = esz ∧ mulN n esz ≤ cells.length) (k (cells.take (mulN n esz)) n)
    | _ => False
  | .str l => match esz with
    | 1 => k (l.map fun c => .int .u8 c.toNat) l.length
    | _ => False
  | _ => False
def isOther (k : TyK) : Bool := match k with
  | .other => true
  | _ => false
def appW (te : TyI) (st : St) (s x : AV) (K : AV → St → Prop) : Prop :=
  match isOther te.kind with
  | true => False
  | false => match te.bytes with
  | 0 => False
  | _ + 1 => srcK st te.size x fun xs n => match s with
    | .nils => VGd (te.bytes * n ≤ 140737488355328) (VIf (decide (n = 0)) (K .nils st) (VAll fun b => K (.own b n) ((b, .arr te.size xs 0) :: st)))
    | .fz cells m full => VGd (full = true ∧ 0 < n ∧ cells.length = mulN m te.size ∧ te.bytes * (m + n) ≤ 140737488355328) (VAll fun b => K (.own b (m + n)) ((b, .arr te.size (cells ++ xs) 0) :: st))
    | .own b m => VObj st b fun i o => match o with
      | .arr esz cells z => VGd (esz = te.size ∧ z ≤ mulN m te.size ∧ mulN m te.size ≤ cells.length ∧ te.bytes * (m + n) ≤ 140737488355328)
          (stDelK st i fun st => VAll fun b => K (.own b (m + n)) ((b, .arr te.size (cells.take (mulN m te.size) ++ xs) z) :: st))
      | _ => False
    | _ => False

def retK (out : AOut) (K : AV → Prop) (Kp : AV → Prop) : Prop := match out with
  | .ret v => K v
  | .panic v => Kp v

def noInt (k : TyK) : Bool := match k with
  | .int _ => false
  | .other => false
  | _ => true
/-- Which function a method is. -/
inductive VMeth (P : Program) (t : TypeId) (name : String) (A : FuncId → Prop) : Prop
  | mk (f : FuncId) (h : ∀ (u : Value) (args : Array Value) (w : World), (callMethod (.iface t u) name args).run P w = (callFunc f (#[u] ++ args)).run P w) (k : A f)
/-- 'copy' of a whole slice of one's own to a part of one. -/
def copyW (te : TyI) (st : St) (s x : AV) (K : AV → St → Prop) : Prop :=
  match s with
  | .sub b o n => match x with
    | .own e k => VObj st e fun _ ob => match ob with
      | .arr esz xs _ => VGd (esz = 1 ∧ te.size = 1 ∧ k ≤ xs.length ∧ k ≤ n) (VObj st b fun m ob => match ob with
        | .arr esz cells z => VGd (esz = 1 ∧ z ≤ o ∧ o + k ≤ cells.length) (stSetK st m (b, .arr 1 (cells.take o ++ xs.take k ++ cells.drop (o + k)) z) fun st => K (.int .i64 k) st)
        | _ => False)
      | _ => False
    | _ => False
  | _ => False
def callW (P : Program) (tb : Tab) (c : Call) (env : Env) (st : St) (K : AV → St → Prop) (Kp : AV → St → Prop) : Prop :=
  match c.callee with
  | .value f => evalK env f fun f => evalsK env c.args.toList fun vs => match f with
    | .fn (.func f) first cap => VFz (first ++ vs ++ cap) st fun args st => ACalls P f args st fun out st' => retK out (fun v => K v st') (fun v => Kp v st')
    | _ => False
  | .builtin .len => match c.argTypes with
    | ⟨[t]⟩ => tb.get t fun ti => evalsK env c.args.toList fun vs => match ti.kind with
      | .str => match vs with
        | [.str l] => K (.int .i64 l.length) st
        | _ => False
      | .slice _ => match vs with
        | [.fz _ n _] => K (.int .i64 n) st
        | [.nils] => K (.int .i64 0) st
        | [.own _ n] => K (.int .i64 n) st
        | _ => False
      | .map _ _ => match vs with
        | [.nilm] => K (.int .i64 0) st
        | [.mapr b] => VObj st b fun _ o => match o with
          | .map ents => K (.int .i64 ents.length) st
          | _ => False
        | _ => False
      | _ => False
    | _ => False
  | .builtin .append => match c.argTypes with
    | ⟨[t, u]⟩ => evalsK env c.args.toList fun vs => match vs with
      | [s, x] => tb.get t fun ti => match ti.kind with
        | .slice e => tb.get e fun te => tb.get u fun tu => match noInt tu.kind with
          | true => appW te st s x K
          | false => False
        | _ => False
      | _ => False
    | _ => False
  | .builtin .copy => match c.argTypes with
    | ⟨[t, _]⟩ => evalsK env c.args.toList fun vs => match vs with
      | [s, x] => tb.get t fun ti => match ti.kind with
        | .slice e => tb.get e fun te => copyW te st s x K
        | _ => False
      | _ => False
    | _ => False
  | .invoke x name => evalK env x fun x => evalsK env c.args.toList fun vs => match x with
    | .iface t v => VMeth P t name fun f => VFz (v :: vs) st fun args st => ACalls P f args st fun out st' => retK out (fun v => K v st') (fun v => Kp v st')
    | _ => False
  | .builtin .max => evalsK env c.args.toList fun vs => match vs with
    | [.int k a, .int _ b] => K (.int k (max a b)) st
    | _ => False
  | .builtin .min => evalsK env c.args.toList fun vs => match vs with
    | [.int k a, .int _ b] => K (.int k (min a b)) st
    | _ => False
  | _ => False

def failTA (P : Program) (ti : TyI) (ok : Bool) (st : St) (K : AV → St → Prop) (Kp : AV → St → Prop) : Prop :=
  match ok with
  | true => zeroK ti fun z => K (.tup [z, .bool false]) st
  | false => VAll fun b => Kp (.iface P.rt.typeAssertionError (.ptr b 0)) st
def noSlice (k : TyK) : Bool := match k with
  | .slice _ => false
  | .other => false
  | _ => true
/-- Cells that are bytes. -/
inductive VBytes (cells : List AV) (n : Nat) (A : List UInt8 → Prop) : Prop
  | mk (l : List UInt8) (h : cells.take n = l.map fun c => .int .u8 c.toNat) (hn : l.length = n) (k : A l)
def isU8 (k : TyK) : Bool := match k with
  | .int .u8 => true
  | _ => false
/-- Bytes as a text. -/
def bytesW (st : St) (x : AV) (K : List UInt8 → Prop) : Prop :=
  match x with
  | .nils => K []
  | .fz cells n _ => VBytes cells n K
  | .own b n => VObj st b fun _ o => match o with
    | .arr esz cells _ => VGd (esz = 1) (VBytes cells n K)
    | _ => False
  | _ => False
/-- Are two keys equal? none: it cannot be told. -/
def keyEq (a b : AV) : Option Bool :=
  match a with
  | .str s => match b with
    | .str t => some (decide (s = t))
    | _ => none
  | .int k n => match b with
    | .int k' m => match decide (k = k') with
      | true => some (decide (n = m))
      | false => none
    | _ => none
  | _ => none
/-- Where a key stands, and the value there. -/
def mapFind : List (AV × AV) → AV → Nat → Option (Option (Nat × AV))
  | [], _, _ => some none
  | e :: r, k, i => match keyEq k e.1 with
    | some true => some (some (i, e.2))
    | some false => mapFind r k (i + 1)
    | none => none
inductive VMap (ents : List (AV × AV)) (k : AV) (A : Option (Nat × AV) → Prop) : Prop
  | mk (r : Option (Nat × AV)) (h : mapFind ents k 0 = some r) (q : A r)
def keyK (kd : TyK) (k : AV) (A : Prop) : Prop :=
  match kd with
  | .str => match k with
    | .str _ => A
    | _ => False
  | .int _ => match k with
    | .int _ _ => A
    | _ => False
  | _ => False
def lookR (ok : Bool) (v : AV) (b : Bool) : AV :=
  match ok with
  | true => .tup [v, .bool b]
  | false => v
/-- Cells of a table of Go's library, which are laid. -/
inductive VLay (P : Program) (b o n : Nat) (A : List AV → Prop) : Prop
  | mk (cells : List AV) (hl : cells.length = n) (h : ∀ W, Lay P W → ∀ (i : Nat) c, cells[i]? = some c → ∃ u, W.cell? ⟨b, o + i, none⟩ = some u ∧ (∀ g, Rel g c u) ∧ u.oneCell' = true) (k : A cells)
/-- The entries of a map. -/
def entsK (o : AObj) (k : List (AV × AV) → Prop) : Prop :=
  match o with
  | .map ents => k ents
  | .mapS ents _ _ => k ents
  | _ => False
/-- When the entries of a map were born: whatever it is. -/
structure VStamp (n : Nat) (A : List Nat → Nat → Prop) : Prop where
  all : ∀ bs clock, bs.length = n → bs.Nodup → (∀ x ∈ bs, x < clock) → A bs clock
/-- The next entry of a map: any that was not seen. -/
structure VNext (ents : List (AV × AV)) (bs seen : List Nat) (A : Prop) (B : Nat → AV × AV → Prop) : Prop where
  over : (∀ x ∈ bs, x ∈ seen) → A
  one : ∀ (i : Nat) e x, ents[i]? = some e → bs[i]? = some x → x ∉ seen → B x e
/-- The entry at which an iteration stands. -/
inductive VEntry (ents : List (AV × AV)) (bs seen : List Nat) (A : AV × AV → Prop) : Prop
  | mk (i : Nat) (e : AV × AV) (x : Nat) (h1 : ents[i]? = some e) (h2 : bs[i]? = some x) (h3 : seen.getLast? = some x) (k : A e)
def rangeM (st : St) (x : AV) (K : AV → St → Prop) : Prop :=
  match x with
  | .mapr m => VObj st m fun n o => match o with
    | .map ents => VStamp ents.length fun bs clock => stSetK st n (m, .mapS ents bs clock) fun st => VAll fun b => K (.ptr b 0) ((b, .miter m clock [] clock) :: st)
    | .mapS _ _ clock => VAll fun b => K (.ptr b 0) ((b, .miter m clock [] clock) :: st)
    | _ => False
  | _ => False
def nextM (st : St) (x : AV) (K : AV → St → Prop) : Prop :=
  match x with
  | .ptr b 0 => VObj st b fun n o => match o with
    | .miter m since seen last => VObj st m fun _ om => match om with
      | .mapS ents bs clock => VGd (since = clock ∧ last = clock) (VNext ents bs seen (K (.tup [.bool false]) st) fun y e => stSetK st n (b, .miter m since (seen ++ [y]) clock) fun st => K (.tup [.bool true, e.1, e.2]) st)
      | _ => False
    | _ => False
  | _ => False
def entryM (st : St) (x : AV) (K : AV → St → Prop) : Prop :=
  match x with
  | .ptr b 0 => VObj st b fun _ o => match o with
    | .miter m _ seen last => VObj st m fun _ om => match om with
      | .mapS ents bs clock => VGd (last = clock) (VEntry ents bs seen fun e => K (.tup [e.1, e.2]) st)
      | _ => False
    | _ => False
  | _ => False
def opW (P : Program) (tb : Tab) (o : Op) (env : Env) (st : St) (K : AV → St → Prop) (Kp : AV → St → Prop) : Prop :=
  match o with
  | .move x | .assign x => evalK env x fun v => K v st
  | .pick c a b => evalK env c fun c => match c with
    | .bool c => VIf c (evalK env a fun v => K v st) (evalK env b fun v => K v st)
    | _ => False
  | .alloc t => tb.get t fun ti => match ti.kind with
    | .other => False
    | _ => VAll fun b => K (.ptr b 0) ((b, .box ti.zero) :: st)
  | .box t x => evalK env x fun x => tb.get t fun ti => cellsK ti x fun cs => VAll fun b => K (.ptr b 0) ((b, .box cs) :: st)
  | .build t parts => tb.get t fun ti => match ti.kind with
    | .struct fs => partsK env parts.toList fun ps => fillK fs ps ti.zero fun cells => K (.agg cells) st
    | _ => False
  | .buildSlice t n parts => tb.get t fun ti => match ti.kind with
    | .slice e => tb.get e fun te => match Nat.ble (n * te.size) 10000 with
      | false => False
      | true => match Nat.beq parts.toList.length n with
        | true => rowK env te parts.toList 0 fun cells _ => VFz cells st fun cells st => K (.fz cells n true) st
        | false => False
    | _ => False
  | .load t x => evalK env x fun x => tb.get t fun ti => match x with
    | .ptr b o => VObj st b fun _ ob => match ob with
      | .box cells => loadK ti cells o fun v => K v st
      | .arr _ cells _ => loadK ti cells o fun v => K v st
      | _ => False
    | .fzp cells => loadK ti cells 0 fun v => K v st
    | .gp b o => VLay P b o ti.size fun cells => loadK ti cells 0 fun v => K v st
    | _ => False
  | .store t x v => evalK env x fun x => evalK env v fun v => tb.get t fun ti => cellsK ti v fun cs => match x with
    | .ptr b o => VObj st b fun m ob => match ob with
      | .box cells => splK cells o cs fun cells => stSetK st m (b, .box cells) fun st => K (.tup []) st
      | .arr esz cells z => match cs with
        | [v] => VGd (z ≤ o ∧ o < cells.length) (stSetK st m (b, .arr esz (cells.set o v) z) fun st => K (.tup []) st)
        | cs => VGd (z ≤ o ∧ o + cs.length ≤ cells.length) (stSetK st m (b, .arr esz (cells.take o ++ cs ++ cells.drop (o + cs.length)) z) fun st => K (.tup []) st)
      | _ => False
    | _ => False
  | .nilCheck x => evalK env x fun x => match x with
    | .ptr b o => K (.ptr b o) st
    | .fzp cells => K (.fzp cells) st
    | .iface t v => K (.iface t v) st
    | .fn (.func f) a b => K (.fn (.func f) a b) st
    | _ => False
  | .binOp op t x y _ => evalK env x fun a => evalK env y fun b => binK tb op t x y a b fun v => K v st
  | .unOp op _ x => evalK env x fun x => match op with
    | .not => match x with
      | .bool b => K (.bool (!b)) st
      | _ => False
    | .neg => match x with
      | .int kd n => intK kd (0 - n) fun r => K (.int kd r) st
      | _ => False
    | _ => False
  | .convert s t x => evalK env x fun x => tb.get s fun si => match noSlice si.kind with
   | false => match si.kind with
     | .slice e => tb.get e fun te => match isU8 te.kind with
       | true => tb.get t fun ti => match ti.kind with
         | .str => bytesW st x fun l => K (.str l) st
         | _ => False
       | false => False
     | _ => False
   | true => tb.get t fun ti => match ti.kind with
    | .int kd => match x with
      | .int _ n => intK kd n fun r => K (.int kd r) st
      | _ => False
    | .str => match x with
      | .int _ n => K (.str (Utf8.encode n).data.toList) st
      | .str l => K (.str l) st
      | _ => False
    | .slice e => match si.kind with
      | .str => match x with
        | .str l => tb.get e fun te => match isU8 te.kind with
          | true => VAll fun b => K (.own b l.length) ((b, .arr 1 (l.map fun c => .int .u8 c.toNat) 0) :: st)
          | false => False
        | _ => False
      | _ => False
    | _ => False
  | .makeInterface t x => evalK env x fun x => tb.get t fun ti => match ti.kind with
    | .struct _ => match x with
      | .agg cs => VFz cs st fun cs st => K (.iface t (.agg cs)) st
      | _ => False
    | .iface => False
    | .other => False
    | _ => VFz [x] st fun vs st => nthK vs 0 fun v => K (.iface t v) st
  | .makeFunc f first cap => evalsK env first.toList fun xs => evalsK env cap.toList fun ys => K (.fn f xs ys) st
  | .makeMap _ none => VAll fun b => K (.mapr b) ((b, .map []) :: st)
  | .makeSlice t n c => evalK env n fun n => evalK env c fun c => intOfK n fun n => intOfK c fun c => tb.get t fun ti => match ti.kind with
    | .slice e => tb.get e fun te => VGd (0 ≤ n ∧ n ≤ c ∧ c ≤ 70368744177664 ∧ te.bytes * c ≤ 70368744177664) (VAll fun b => match te.kind with
      | .struct _ => K (.own b n.toNat) ((b, .arr te.size (List.replicate n.toNat te.zero).flatten 0) :: st)
      | .other => False
      | _ => nthK te.zero 0 fun z => K (.own b n.toNat) ((b, .arr te.size (List.replicate n.toNat z) 0) :: st))
    | _ => False
  | .slice t x lo hi mx => evalK env x fun x => sliceW tb t env st x lo hi mx K
  | .fieldAddr t x i => evalK env x fun x => tb.get t fun ti => match ti.kind with
    | .struct fs => nthF fs i fun fi => match fi.size with
      | 0 => False
      | _ + 1 => match x with
        | .ptr b o => K (.ptr b (o + fi.off)) st
        | .fzp cells => K (.fzp (cells.drop fi.off)) st
        | .gp b o => K (.gp b (o + fi.off)) st
        | _ => False
    | _ => False
  | .field t x i => evalK env x fun x => tb.get t fun ti => match ti.kind with
    | .struct fs => nthF fs i fun fi => match x with
      | .agg cells => match fi.agg with
        | true => VTake cells fi.off fi.size fun cs => K (.agg cs) st
        | false => VNth cells fi.off fun v => K v st
      | _ => False
    | _ => False
  | .indexAddr t x i => evalK env x fun x => evalK env i fun i => intOfK i fun i => tb.get t fun ti => match ti.kind with
    | .slice e => tb.get e fun te => match x with
      | .fz cells n _ => VIdx i n fun j => K (.fzp (cells.drop (mulN j te.size))) st
      | .own b n => VIdx i n fun j => K (.ptr b (mulN j te.size)) st
      | _ => False
    | .other => match ti.arr with
      | some ne => tb.get ne.2 fun te => arrK x (fun b o => VIdx i ne.1 fun j => K (.gp b (o + mulN j te.size)) st) (fun b o => VIdx i ne.1 fun j => K (.ptr b (o + mulN j te.size)) st)
      | none => False
    | _ => False
  | .index t x i => evalK env x fun x => evalK env i fun i => tb.get t fun ti => match ti.kind with
    | .str => match x with
      | .str l => intOfK i fun i => VIdx i l.length fun j => K (.int .u8 (l.getD j 0).toNat) st
      | _ => False
    | _ => False
  | .range t x => evalK env x fun x => tb.get t fun ti => match ti.kind with
    | .str => match x with
      | .str l => VAll fun b => K (.ptr b 0) ((b, .siter l 0) :: st)
      | _ => False
    | .map _ _ => rangeM st x K
    | _ => False
  | .next x false => evalK env x fun x => nextM st x K
  | .entry x => evalK env x fun x => entryM st x K
  | .next x true => evalK env x fun x => match x with
    | .ptr b 0 => VObj st b fun n o => match o with
      | .siter l pos => VIf (decide (pos < l.length))
          (stSetK st n (b, .siter l (pos + (Utf8.decode ⟨⟨l⟩⟩ pos).2)) fun st => K (.tup [.bool true, .int .i64 pos, .int .i32 (Utf8.decode ⟨⟨l⟩⟩ pos).1]) st)
          (K (.tup [.bool false]) st)
      | _ => False
    | _ => False
  | .typeAssert x _ t ok => evalK env x fun x => tb.get t fun ti => match ti.kind with
    | .iface => False
    | .other => False
    | _ => match x with
      | .iface u v => match Nat.beq u t with
        | true => match ok with
          | true => K (.tup [v, .bool true]) st
          | false => K v st
        | false => failTA P ti ok st K Kp
      | .nili => failTA P ti ok st K Kp
      | _ => False
  | .extract x i => evalK env x fun x => match x with
    | .tup vs => nthK vs i fun v => K v st
    | _ => False
  | .lookup t m k ok => evalK env m fun m => evalK env k fun k => tb.get t fun ti => match ti.kind with
    | .map kt et => tb.get kt fun tk => tb.get et fun te => keyK tk.kind k (match m with
      | .nilm => zeroK te fun z => K (lookR ok z false) st
      | .mapr b => VObj st b fun _ o => entsK o fun ents => VMap ents k fun r => match r with
        | some x => K (lookR ok x.2 true) st
        | none => zeroK te fun z => K (lookR ok z false) st
      | _ => False)
    | _ => False
  | .mapUpdate t m k x | .insert t m k x => evalK env m fun m => evalK env k fun k => evalK env x fun x => tb.get t fun ti => match ti.kind with
    | .map kt _ => tb.get kt fun tk => keyK tk.kind k (match m with
      | .mapr b => VObj st b fun n o => match o with
        | .map ents => VMap ents k fun r => match r with
          | some p => stSetK st n (b, .map (ents.set p.1 (k, x))) fun st => K (.tup []) st
          | none => stSetK st n (b, .map (ents ++ [(k, x)])) fun st => K (.tup []) st
        | _ => False
      | _ => False)
    | _ => False
  | .call c => callW P tb c env st K Kp
  | .panic x => evalK env x fun x => match x with
    | .iface t v => Kp (.iface t v) st
    | _ => False
  | _ => False

def putK (n : Nat) (d : Option Tmp) (v : AV) (env : Env) (k : Env → Prop) : Prop :=
  match d with
  | some d => match Nat.blt d n with
    | true => k ((d, v) :: env)
    | false => False
  | none => k env
def nthOp (l : List Oper) (n : Nat) : Option Tmp :=
  match l with
  | [] => none
  | o :: r => match n with
    | 0 => o.dst
    | n + 1 => nthOp r n

/-- One operation in the text's order; 'ih': the rest. -/
def WopsStep (P : Program) (tb : Tab) (n : Nat) (ops : List Oper) (Kp : AV → Env → St → Prop) (o : Oper) (ih : Env → St → (Env → St → Prop) → Prop) (env : Env) (st : St) (K : Env → St → Prop) : Prop :=
    match o.guard with
    | none => opW P tb o.op env st (fun v st' => putK n o.dst v env fun env' => ih env' st' K) (fun v st' => Kp v env st')
    | some (j, want) =>
      match nthOp ops j with
      | none => False
      | some d => env.get d fun g => match g with
        | .bool b => match want with
          | true => VIf b
            (opW P tb o.op ((d, .bool true) :: env) st (fun v st' => putK n o.dst v ((d, .bool true) :: env) fun env' => ih env' st' K) (fun v st' => Kp v env st'))
            (putK n o.dst (.tup []) ((d, .bool false) :: env) fun env' => ih env' st K)
          | false => VIf b
            (putK n o.dst (.tup []) ((d, .bool true) :: env) fun env' => ih env' st K)
            (opW P tb o.op ((d, .bool false) :: env) st (fun v st' => putK n o.dst v ((d, .bool false) :: env) fun env' => ih env' st' K) (fun v st' => Kp v env st'))
        | .tup [] => putK n o.dst (.tup []) env fun env' => ih env' st K
        | _ => False
/-- Operations in the text's order. (By the recursor itself: what the kernel unfolds is then what stands in the goal.) -/
noncomputable def Wops (P : Program) (tb : Tab) (n : Nat) (ops : List Oper) (Kp : AV → Env → St → Prop) (l : List Oper) : Env → St → (Env → St → Prop) → Prop :=
  List.rec (motive := fun _ => Env → St → (Env → St → Prop) → Prop) (fun env st K => K env st) (fun o _ ih => WopsStep P tb n ops Kp o ih) l
theorem Wops_cons {P : Program} {tb : Tab} {n : Nat} {ops : List Oper} {Kp : AV → Env → St → Prop} {o : Oper} {r : List Oper} {env : Env} {st : St} {K : Env → St → Prop} : Wops P tb n ops Kp (o :: r) env st K = WopsStep P tb n ops Kp o (Wops P tb n ops Kp r) env st K := rfl

/-! Regions in which any order may be drawn: operations that leave the store as it is, and whose values are known. -/
inductive VQ (A B : AV → Prop) : Prop
  | mk (v : AV) (h : A v) (k : B v)
def tmpsOf : List Operand → List Nat
  | [] => []
  | x :: r => match x with
    | .tmp t => t :: tmpsOf r
    | _ => tmpsOf r
def memT (n : Nat) : List Nat → Bool
  | [] => false
  | m :: r => match Nat.beq m n with
    | true => true
    | false => memT n r
/-- What is known of some slots. -/
def onlyK (ws : List Nat) (env : Env) (k : Env → Prop) : Prop :=
  match env with
  | [] => k []
  | x :: r => match memT x.1 ws with
    | true => onlyK ws r fun l => k (x :: l)
    | false => onlyK ws r k
/-- The slots that an operation looks at. -/
def looks (ops : List Oper) (o : Oper) : List Nat :=
  match o.guard with
  | none => tmpsOf o.op.operands.toList
  | some (j, _) => match nthOp ops j with
    | some d => d :: tmpsOf o.op.operands.toList
    | none => tmpsOf o.op.operands.toList
def edgeIn (j : Nat) : List Edge → Bool
  | [] => false
  | e :: r => match Nat.beq e.on j with
    | true => match Region.binds .any e with
      | true => true
      | false => edgeIn j r
    | false => edgeIn j r
def edgesLt (i : Nat) : List Edge → Bool
  | [] => true
  | e :: r => match Region.binds .any e with
    | true => match Nat.blt e.on i with
      | true => edgesLt i r
      | false => false
    | false => edgesLt i r
/-- Two operations, one ahead of the other in the text: do they write apart, and if one looks at what the other writes, does the later wait for the earlier? -/
def pairB (ops : List Oper) (j : Nat) (p o : Oper) : Bool :=
  match edgeIn j o.after.toList with
  | true => match p.dst with
    | none => true
    | some d => match o.dst with
      | none => true
      | some e => !Nat.beq d e
  | false => (match p.dst with
    | none => true
    | some d => match memT d (looks ops o) with
      | true => false
      | false => match o.dst with
        | none => true
        | some e => !Nat.beq d e) && (match o.dst with
    | none => true
    | some e => !memT e (looks ops p))
def pairsB (ops : List Oper) (o : Oper) : Nat → List Oper → Bool
  | _, [] => true
  | j, p :: r => pairB ops j p o && pairsB ops o (j + 1) r
/-- 'done': what stands ahead, from the first on. -/
def indepB (ops : List Oper) : Nat → List Oper → List Oper → Bool
  | _, _, [] => true
  | i, done, o :: r => edgesLt i o.after.toList && pairsB ops o 0 done && indepB ops (i + 1) (done ++ [o]) r

def WqStep (P : Program) (tb : Tab) (n : Nat) (ops : List Oper) (o : Oper) (ih : Env → St → (Env → Prop) → Prop) (env : Env) (st : St) (K : Env → Prop) : Prop :=
    match o.guard with
    | none => onlyK (tmpsOf o.op.operands.toList) env fun e => VQ (fun v => opW P tb o.op e st (fun v' st' => v' = v ∧ st' = st) fun _ _ => False) fun v => putK n o.dst v env fun env' => ih env' st K
    | some (j, want) =>
      match nthOp ops j with
      | none => False
      | some d => env.get d fun g => match g with
        | .bool b => match want with
          | true => VIf b
            (onlyK (tmpsOf o.op.operands.toList) ((d, .bool true) :: env) fun e => VQ (fun v => opW P tb o.op e st (fun v' st' => v' = v ∧ st' = st) fun _ _ => False) fun v => putK n o.dst v ((d, .bool true) :: env) fun env' => ih env' st K)
            (putK n o.dst (.tup []) ((d, .bool false) :: env) fun env' => ih env' st K)
          | false => VIf b
            (putK n o.dst (.tup []) ((d, .bool true) :: env) fun env' => ih env' st K)
            (onlyK (tmpsOf o.op.operands.toList) ((d, .bool false) :: env) fun e => VQ (fun v => opW P tb o.op e st (fun v' st' => v' = v ∧ st' = st) fun _ _ => False) fun v => putK n o.dst v ((d, .bool false) :: env) fun env' => ih env' st K)
        | .tup [] => putK n o.dst (.tup []) env fun env' => ih env' st K
        | _ => False
noncomputable def Wq (P : Program) (tb : Tab) (n : Nat) (ops : List Oper) (l : List Oper) : Env → St → (Env → Prop) → Prop :=
  List.rec (motive := fun _ => Env → St → (Env → Prop) → Prop) (fun env _ K => K env) (fun o _ ih => WqStep P tb n ops o ih) l
theorem Wq_cons {P : Program} {tb : Tab} {n : Nat} {ops : List Oper} {o : Oper} {r : List Oper} {env : Env} {st : St} {K : Env → Prop} : Wq P tb n ops (o :: r) env st K = WqStep P tb n ops o (Wq P tb n ops r) env st K := rfl

/-- The slots that code writes. -/
def writesOps : List Oper → List Nat
  | [] => []
  | o :: r => match o.dst with
    | some d => d :: writesOps r
    | none => writesOps r
def writes : Code → List Nat
  | .region _ ops _ => writesOps ops.toList
  | .seq a b => writes a ++ writes b
  | .cond _ a b => writes a ++ writes b
  | .block _ a => writes a
  | .loop a => writes a
  | .scope a => writes a
  | .rangeFunc _ ps a b => ps.toList ++ (writes a ++ writes b)
  | _ => []
/-- What is known of slots that are not written. -/
def keepK (ws : List Nat) (env : Env) (k : Env → Prop) : Prop :=
  match env with
  | [] => k []
  | x :: r => match memN x.1 ws with
    | true => keepK ws r k
    | false => keepK ws r fun l => k (x :: l)
def getsK (env : Env) (ss : List Nat) (k : List AV → Prop) : Prop :=
  match ss with
  | [] => k []
  | s :: r => env.get s fun v => getsK env r fun vs => k (v :: vs)
def bindE (ss : List Nat) (vs : List AV) (env : Env) : Env :=
  match ss with
  | [] => env
  | s :: r => match vs with
    | [] => env
    | v :: vs => (s, v) :: bindE r vs env

/-- So many rounds at most. -/
def unrollK (run : Env → St → (AExit → Env → St → Prop) → Prop) (env : Env) (Q : AExit → Env → St → Prop) (ss : List Nat) : Nat → List AV → St → Prop
  | 0, _, _ => False
  | k + 1, vs, st => run (bindE ss vs env) st fun ex env' st' => match ex with
    | .normal => getsK env' ss fun vs' => unrollK run env Q ss k vs' st'
    | ex => Q ex env' st'

/-- A loop: 'run' is its body; 'env' what is known of the slots that it does not write; 'full' what is known at its begin. -/
inductive VLoop (run : Env → St → (AExit → Env → St → Prop) → Prop) (full env : Env) (st : St) (Q : AExit → Env → St → Prop) : Prop
  | mk (ss : List Nat) (ι : Type) (e : ι → List AV) (s : ι → St) (I : ι → Prop) (m : ι → Nat) (i0 : ι)
      (h0 : I i0 ∧ getsK full ss (fun vs => vs = e i0) ∧ VSel (s i0) st)
      (h : ∀ i, I i → run (bindE ss (e i) env) (s i) fun ex env' st' => match ex with
        | .normal => getsK env' ss fun vs => ∃ j, I j ∧ m j < m i ∧ vs = e j ∧ VSel (s j) st'
        | ex => Q ex env' st')
  | un (k : Nat) (ss : List Nat) (h : getsK full ss fun vs => unrollK run env Q ss k vs st)

/-- Operations that leave the store as it is. -/
def quietOp : Op → Bool
  | .call c => match c.callee with
    | .builtin .copy => false
    | _ => true
  | .store _ _ _ | .alloc _ | .box _ _ | .buildSlice _ _ _ | .makeMap _ _ | .makeSlice _ _ _ | .mapUpdate _ _ _ _ | .insert _ _ _ _ | .range _ _ | .next _ _ => false
  | _ => true
def quietB : List Oper → Bool
  | [] => true
  | o :: r => match quietOp o.op with
    | true => quietB r
    | false => false
/-- A region whose order is drawn: quiet, or any. -/
inductive VDraw (p : Prop) (A B : Prop) : Prop
  | quiet (h : p) (k : A)
  | any (k : B)
/-- What is to be shown of a piece of code. -/
noncomputable def W (P : Program) (tb : Tab) (n : Nat) (c : Code) : (AExit → Env → St → Prop) → Env → St → Prop :=
  Code.rec (motive := fun _ => (AExit → Env → St → Prop) → Env → St → Prop)
    (fun Q env st => Q .normal env st)
    (fun id ops d Q env st => match d with
      | false => Wops P tb n ops.toList (fun v env st => Q (.panic v) env st) ops.toList env st (fun env st => Q .normal env st)
      | true => VDraw (quietB ops.toList = true) (VGd (indepB ops.toList 0 [] ops.toList = true) (Wq P tb n ops.toList ops.toList env st fun env => Q .normal env st)) (VSem P tb n (writesOps ops.toList) (.region id ops true) Q env st))
    (fun _ _ wa wb Q env st => wa (fun e env st => match e with
      | .normal => wb Q env st
      | e => Q e env st) env st)
    (fun c _ _ wa wb Q env st => evalK env c fun c => match c with
      | .bool c => VIf c (wa Q env st) (wb Q env st)
      | _ => False)
    (fun id _ wa Q env st => wa (fun e env st => match e with
      | .exit i => match Nat.beq i id with
        | true => Q .normal env st
        | false => Q (.exit i) env st
      | e => Q e env st) env st)
    (fun a wa Q env st => keepK (writes a) env fun env' => VLoop (fun env st Q => wa Q env st) env env' st Q)
    (fun f ps x y _ _ Q env st => VSem P tb n (ps.toList ++ (writes x ++ writes y)) (.rangeFunc f ps x y) Q env st)
    (fun id Q env st => Q (.exit id) env st)
    (fun c _ Q env st => VSem P tb n (writes c) (.scope c) Q env st)
    (fun _ Q env st => Q .normal env st)
    (fun l Q env st => Q (.goto l) env st)
    (fun Q env st => Q .ret env st)
    (fun _ _ _ _ => False) c

/-- The results. -/
def resK (tb : Tab) (rs : List ResultVar) (env : Env) (st : St) (k : List AV → Prop) : Prop :=
  match rs with
  | [] => k []
  | .tmp t :: r => env.get t fun v => resK tb r env st fun vs => k (v :: vs)
  | .cell t ty :: r => env.get t fun x => match x with
    | .ptr b o => VObj st b fun _ ob => match ob with
      | .box cells => tb.get ty fun ti => loadK ti cells o fun v => resK tb r env st fun vs => k (v :: vs)
      | _ => False
    | _ => False
def tupK (vs : List AV) (k : AV → Prop) : Prop :=
  match vs with
  | [v] => k v
  | vs => k (.tup vs)
inductive VRet (Post : AOut → St → Prop) (out : AOut) (st : St) : Prop
  | mk (st' : St) (h : VSel st' st) (k : Post out st')
def endW (tb : Tab) (rs : List ResultVar) (Post : AOut → St → Prop) (e : AExit) (env : Env) (st : St) : Prop :=
  match e with
  | .normal | .ret => resK tb rs env st fun vs => VFz vs st fun vs st => tupK vs fun v => VRet Post (.ret v) st
  | .panic v => VRet Post (.panic v) st
  | .exit _ => False
  | .goto _ => False
def bindP (n : Nat) : List AV → Env
  | [] => []
  | v :: vs => (n, v) :: bindP (n + 1) vs
end Go.Av

namespace Go.Av
open Go

theorem Gh.le_refl (g : Gh) : Gh.le g g := ⟨fun _ _ _ h => h, fun _ _ h => h⟩
theorem Gh.le_trans {a b c : Gh} (h : Gh.le a b) (k : Gh.le b c) : Gh.le a c := ⟨fun _ _ _ x => k.1 _ _ _ (h.1 _ _ _ x), fun _ _ x => k.2 _ _ (h.2 _ _ x)⟩

mutual
theorem Rel.mono {g h : Gh} (le : Gh.le g h) : ∀ (a : AV) (v : Value), Rel g a v → Rel h a v
  | .bool _, _, r => r
  | .int _ _, _, r => r
  | .str _, _, r => r
  | .nilp, _, r => r
  | .ptr _ _, _, r => r
  | .gp _ _, _, r => r
  | .fzp cells, _, ⟨b, o, e, c⟩ => ⟨b, o, e, Cells.mono le cells b o c⟩
  | .nils, _, r => r
  | .fz cells _ _, _, ⟨a, cap, e, l, f, c⟩ => ⟨a, cap, e, l, f, c.imp id fun ⟨b, o, e, c⟩ => ⟨b, o, e, Cells.mono le cells b o c⟩⟩
  | .own _ _, _, ⟨cap, e, k, l⟩ => ⟨cap, e, le.2 _ _ k, l⟩
  | .sub _ _ _, _, r => r
  | .nilm, _, r => r
  | .mapr _, _, r => r
  | .fn _ first cap, _, ⟨us, ws, e, x, y⟩ => ⟨us, ws, e, RelL.mono le first us x, RelL.mono le cap ws y⟩
  | .nilf, _, r => r
  | .iface _ x, _, ⟨u, e, r⟩ => ⟨u, e, Rel.mono le x u r⟩
  | .nili, _, r => r
  | .agg cells, _, ⟨us, e, r⟩ => ⟨us, e, RelL.mono le cells us r⟩
  | .tup cells, _, ⟨us, e, r⟩ => ⟨us, e, RelL.mono le cells us r⟩
theorem RelL.mono {g h : Gh} (le : Gh.le g h) {q : Bool} : ∀ (l : List AV) (us : List Value), RelL g q l us → RelL h q l us
  | [], _, r => r
  | c :: l, _, ⟨u, ws, e, ⟨r, o⟩, rs⟩ => ⟨u, ws, e, ⟨Rel.mono le c u r, o⟩, RelL.mono le l ws rs⟩
theorem Cells.mono {g h : Gh} (le : Gh.le g h) : ∀ (l : List AV) (b o : Nat), Cells g b o l → Cells h b o l
  | [], _, _, r => r
  | c :: l, b, o, ⟨⟨u, m, r, x⟩, rs⟩ => ⟨⟨u, le.1 _ _ _ m, Rel.mono le c u r, x⟩, Cells.mono le l b (o + 1) rs⟩
end

theorem RelL.length {g : Gh} {q : Bool} : ∀ {l : List AV} {us : List Value}, RelL g q l us → us.length = l.length
  | [], _, r => by cases r; rfl
  | _ :: _, _, ⟨_, _, e, _, rs⟩ => by cases e; simp [RelL.length rs]
theorem RelL.nth {g : Gh} {q : Bool} : ∀ {l : List AV} {us : List Value} (i : Nat) {v : AV}, RelL g q l us → l[i]? = some v → ∃ u, us[i]? = some u ∧ Rel g v u ∧ (q = true → u.oneCell' = true)
  | [], _, _, _, _, h => by simp at h
  | c :: l, _, 0, v, ⟨u, ws, e, r, rs⟩, h => by cases e; simp at h; subst h; exact ⟨u, rfl, r⟩
  | c :: l, _, i + 1, v, ⟨u, ws, e, r, rs⟩, h => by cases e; simp at h; obtain ⟨u', h1, h2⟩ := RelL.nth i rs h; exact ⟨u', by simpa using h1, h2⟩
theorem RelL.append {g : Gh} {q : Bool} : ∀ {l m : List AV} {us ws : List Value}, RelL g q l us → RelL g q m ws → RelL g q (l ++ m) (us ++ ws)
  | [], _, _, _, h, k => by cases h; exact k
  | c :: l, m, _, ws, ⟨u, us, e, r, rs⟩, k => by cases e; exact ⟨u, us ++ ws, rfl, r, RelL.append rs k⟩
theorem RelL.split {g : Gh} {q : Bool} : ∀ {l m : List AV} {us : List Value}, RelL g q (l ++ m) us → ∃ a b, us = a ++ b ∧ RelL g q l a ∧ RelL g q m b
  | [], _, us, h => ⟨[], us, rfl, rfl, h⟩
  | c :: l, m, _, ⟨u, us, e, r, rs⟩ => by
    cases e; obtain ⟨a, b, e, h, k⟩ := RelL.split rs; exact ⟨u :: a, b, by simp [e], ⟨u, a, rfl, r, h⟩, k⟩
theorem RelL.take {g : Gh} {q : Bool} : ∀ {l : List AV} {us : List Value} (n : Nat), RelL g q l us → RelL g q (l.take n) (us.take n)
  | [], _, n, h => by cases h; simp [RelL]
  | _ :: _, _, 0, _ => by simp [RelL]
  | c :: l, _, n + 1, ⟨u, us, e, r, rs⟩ => by cases e; exact ⟨u, us.take n, rfl, r, RelL.take n rs⟩
theorem RelL.drop {g : Gh} {q : Bool} : ∀ {l : List AV} {us : List Value} (n : Nat), RelL g q l us → RelL g q (l.drop n) (us.drop n)
  | [], _, n, h => by cases h; simp [RelL]
  | _ :: _, _, 0, h => by simpa using h
  | c :: l, _, n + 1, ⟨u, us, e, r, rs⟩ => by cases e; simpa using RelL.drop n rs
theorem RelL.set {g : Gh} {q : Bool} {v : AV} {u : Value} (hr : Rel g v u ∧ (q = true → u.oneCell' = true)) : ∀ {l : List AV} {us : List Value} (n : Nat), RelL g q l us → RelL g q (l.set n v) (us.set n u)
  | [], _, n, h => by cases h; simp [RelL]
  | _ :: _, _, 0, ⟨u', us, e, r, rs⟩ => by cases e; exact ⟨u, us, rfl, hr, rs⟩
  | c :: l, _, n + 1, ⟨u', us, e, r, rs⟩ => by cases e; exact ⟨u', us.set n u, rfl, r, RelL.set hr n rs⟩
theorem RelL.replicate {g : Gh} {q : Bool} {v : AV} {u : Value} (hr : Rel g v u ∧ (q = true → u.oneCell' = true)) : ∀ n : Nat, RelL g q (List.replicate n v) (List.replicate n u)
  | 0 => rfl
  | n + 1 => ⟨u, List.replicate n u, rfl, hr, RelL.replicate hr n⟩
theorem RelL.one {g : Gh} {q : Bool} {v : AV} {us : List Value} (h : RelL g q [v] us) : ∃ u, us = [u] ∧ Rel g v u ∧ (q = true → u.oneCell' = true) := by
  obtain ⟨u, ws, e, r, rs⟩ := h; cases rs; exact ⟨u, e, r⟩
theorem RelL.ones {g : Gh} : ∀ {l : List AV} {us : List Value}, RelL g true l us → ∀ u ∈ us, u.oneCell' = true
  | [], _, h => by cases h; simp
  | c :: l, _, ⟨u, us, e, r, rs⟩ => by
    cases e; intro x hx
    rcases List.mem_cons.1 hx with rfl | hx
    · exact r.2 rfl
    · exact RelL.ones rs x hx
theorem Cells.nth {g : Gh} : ∀ {l : List AV} {b o : Nat} (i : Nat) {v : AV}, Cells g b o l → l[i]? = some v → ∃ u, g.μ b (o + i) = some u ∧ Rel g v u ∧ u.oneCell' = true
  | [], _, _, _, _, _, h => by simp at h
  | c :: l, b, o, 0, v, ⟨h, _⟩, e => by simp at e; subst e; exact h
  | c :: l, b, o, i + 1, v, ⟨_, h⟩, e => by
    simp at e; obtain ⟨u, h1, h2⟩ := Cells.nth i h e; exact ⟨u, by rw [show o + (i + 1) = o + 1 + i by omega]; exact h1, h2⟩
theorem Cells.drop {g : Gh} : ∀ {l : List AV} {b o : Nat} (n : Nat), Cells g b o l → Cells g b (o + n) (l.drop n)
  | l, b, o, 0, h => by simpa using h
  | [], b, o, n + 1, h => by simp [Cells]
  | c :: l, b, o, n + 1, ⟨_, h⟩ => by
    have := Cells.drop n h; rw [show o + (n + 1) = o + 1 + n by omega]; simpa using this
theorem Cells.take {g : Gh} : ∀ {l : List AV} {b o : Nat} (n : Nat), Cells g b o l → Cells g b o (l.take n)
  | l, b, o, 0, h => by simp [Cells]
  | [], b, o, n + 1, h => by simp [Cells]
  | c :: l, b, o, n + 1, ⟨h, k⟩ => ⟨h, Cells.take n k⟩
theorem Cells.of_nth {g : Gh} : ∀ {l : List AV} {b o : Nat}, (∀ (i : Nat) (v : AV), l[i]? = some v → ∃ u, g.μ b (o + i) = some u ∧ Rel g v u ∧ u.oneCell' = true) → Cells g b o l
  | [], _, _, _ => trivial
  | c :: l, b, o, h => ⟨by simpa using h 0 c rfl, Cells.of_nth fun i v e => by
      have := h (i + 1) v (by simpa using e); rw [show o + 1 + i = o + (i + 1) by omega]; exact this⟩
/-- The values that such cells hold. -/
theorem Cells.rel {g : Gh} : ∀ {l : List AV} {b o : Nat}, Cells g b o l → ∃ us, RelL g true l us ∧ ∀ (i : Nat) u, us[i]? = some u → g.μ b (o + i) = some u
  | [], _, _, _ => ⟨[], rfl, fun _ _ h => by simp at h⟩
  | c :: l, b, o, ⟨⟨u, m, r, x⟩, k⟩ => by
    obtain ⟨us, rs, h⟩ := Cells.rel k
    refine ⟨u :: us, ⟨u, us, rfl, ⟨r, fun _ => x⟩, rs⟩, fun i x e => ?_⟩
    cases i with
    | zero => simp at e; subst e; exact m
    | succ i => simp at e; have := h i x e; rw [show o + (i + 1) = o + 1 + i by omega]; exact this

theorem Rel.one_cells {g : Gh} : ∀ {a : AV} {v : Value}, a.one = true → Rel g a v → v.cells = #[v] ∧ v.oneCell' = true
  | .bool _, _, _, r | .int _ _, _, _, r | .str _, _, _, r | .nilp, _, _, r | .ptr _ _, _, _, r | .gp _ _, _, _, r | .nils, _, _, r | .nilm, _, _, r | .mapr _, _, _, r | .nilf, _, _, r | .nili, _, _, r => by cases r; exact ⟨rfl, rfl⟩
  | .fzp _, _, _, ⟨_, _, e, _⟩ => by cases e; exact ⟨rfl, rfl⟩
  | .fz _ _ _, _, _, ⟨_, _, e, _⟩ => by cases e; exact ⟨rfl, rfl⟩
  | .own _ _, _, _, ⟨_, e, _⟩ => by cases e; exact ⟨rfl, rfl⟩
  | .sub _ _ _, _, _, ⟨_, e, _⟩ => by cases e; exact ⟨rfl, rfl⟩
  | .fn _ _ _, _, _, ⟨_, _, e, _⟩ => by cases e; exact ⟨rfl, rfl⟩
  | .iface _ _, _, _, ⟨_, e, _⟩ => by cases e; exact ⟨rfl, rfl⟩
  | .agg _, _, h, _ => by cases h
  | .tup _, _, h, _ => by cases h
end Go.Av

namespace Go.Av
open Go

theorem lt_of_heap {w : World} {b : Nat} {o : Obj} (h : w.heap[b]? = some o) : b < w.heap.size := by
  rcases Nat.lt_or_ge b w.heap.size with h' | h'
  · exact h'
  · simp [Array.getElem?_eq_none h'] at h
theorem cell_of {w : World} {b : Nat} {us : List Value} {T : TypeId} {fr : Nat × Nat} (h : w.heap[b]? = some (.cells ⟨us⟩ T fr)) (i : Nat) :
    w.cell? ⟨b, i, none⟩ = us[i]? := by
  simp [World.cell?, h]
theorem heap_alloc_old {w : World} {o : Obj} {b : Nat} (h : b < w.heap.size) : (w.alloc o).heap[b]? = w.heap[b]? := RowKit.Below.heap_alloc w o b h
theorem heap_alloc_new (w : World) (o : Obj) : (w.alloc o).heap[w.heap.size]? = some o := by
  show (w.heap.push o)[w.heap.size]? = _
  simp

theorem ObjR.lt {g : Gh} {w : World} {b : Nat} {o : AObj} (h : ObjR g w b o) : b < w.heap.size := by
  cases o with
  | box cells => obtain ⟨_, _, _, _, h, _⟩ := h; exact lt_of_heap h
  | arr esz cells z => obtain ⟨_, _, _, _, _, _, h, _⟩ := h; exact lt_of_heap h
  | map ents => obtain ⟨_, _, h, _⟩ := h; exact lt_of_heap h
  | siter s pos => exact lt_of_heap h
  | mapS ents bs clock => obtain ⟨_, h, _⟩ := h; exact lt_of_heap h
  | miter m since seen last => exact lt_of_heap h
theorem ObjR.world {g : Gh} {w w' : World} {b : Nat} {o : AObj} (h : ObjR g w b o) (e : w'.heap[b]? = w.heap[b]?) : ObjR g w' b o := by
  cases o <;> simp only [ObjR, e] at h ⊢ <;> exact h
theorem RelE.mono {g h : Gh} (le : Gh.le g h) : ∀ (l : List (AV × AV)) (us : List MapEntry), RelE g l us → RelE h l us
  | [], _, r => r
  | _ :: l, _, ⟨u, ws, e, r, r', rs⟩ => ⟨u, ws, e, Rel.mono le _ _ r, Rel.mono le _ _ r', RelE.mono le l ws rs⟩
theorem ObjR.gh {g h : Gh} {w : World} {b : Nat} {o : AObj} (r : ObjR g w b o) (le : Gh.le g h) (hn : ∀ i, g.μ b i = none → h.μ b i = none) : ObjR h w b o := by
  cases o with
  | box cells => obtain ⟨us, T, lo, hi, h1, h2, h3, h4⟩ := r; exact ⟨us, T, lo, hi, h1, h2.mono le, h3, fun o => hn _ (h4 o)⟩
  | arr esz cells z => obtain ⟨us, vs, T, lo, hi, cap, h1, h2, h3, h4, h5, h6⟩ := r; exact ⟨us, vs, T, lo, hi, cap, h1, h2.mono le, h3, le.2 _ _ h4, h5, fun o ho => hn _ (h6 o ho)⟩
  | map ents => obtain ⟨es, clock, h1, h2, h3⟩ := r; exact ⟨es, clock, h1, h2.mono le, h3⟩
  | siter s pos => exact r
  | mapS ents bs clock => obtain ⟨es, h1, h2, h3⟩ := r; exact ⟨es, h1, h2.mono le, h3⟩
  | miter m since seen last => exact r

theorem Inv.mu_none {W : World} {g : Gh} {st : St} {w : World} (h : Inv W g st w) {b : Nat} (hb : w.heap.size ≤ b) (o : Nat) : g.μ b o = none := by
  cases e : g.μ b o with
  | none => rfl
  | some u => have := World.block_lt_of_cell? _ _ (h.mem _ _ _ e); simp at this; omega
theorem Inv.base_le {W : World} {g : Gh} {st : St} {w : World} (h : Inv W g st w) : W.heap.size ≤ w.heap.size := h.below.size

/-- An object that is new. -/
theorem Inv.alloc {W : World} {g : Gh} {st : St} {w : World} (h : Inv W g st w) (o : Obj) (ao : AObj) {g' : Gh} (le : Gh.le g g') (hμ : ∀ b i, g'.μ b i = g.μ b i)
    (hκ : ∀ b n, g'.κ b = some n → b < w.heap.size + 1) (hr : ObjR g' (w.alloc o) w.heap.size ao) : Inv W g' ((w.heap.size, ao) :: st) (w.alloc o) where
  mem b o' u e := by
    rw [hμ] at e
    have h1 := h.mem _ _ _ e
    have h2 := World.block_lt_of_cell? _ _ h1
    rw [World.cell?_alloc_lt _ _ _ (by simpa using h2)]; exact h1
  obj x hx := by
    rcases List.mem_cons.1 hx with rfl | hx
    · exact hr
    · have r := h.obj x hx
      exact (r.world (heap_alloc_old r.lt)).gh le fun i e => by rw [hμ]; exact e
  nodup := by
    simp only [List.map_cons, List.nodup_cons]
    refine ⟨fun hm => ?_, h.nodup⟩
    obtain ⟨x, hx, e⟩ := List.mem_map.1 hm
    have := (h.obj x hx).lt
    omega
  low x hx := by
    rcases List.mem_cons.1 hx with rfl | hx
    · exact h.base_le
    · exact h.low x hx
  cap b n e := by simpa using hκ b n e
  below := h.below.alloc h.base_le _

/-- A draw. -/
theorem Inv.drew {W : World} {g : Gh} {st : St} {w : World} (h : Inv W g st w) : Inv W g st w.drew :=
  ⟨h.mem, h.obj, h.nodup, h.low, h.cap, h.below.drew⟩
theorem Inv.sub {W : World} {g : Gh} {st st' : St} {w : World} (h : Inv W g st w) (hs : ∀ x ∈ st', x ∈ st) (hn : (st'.map (·.1)).Nodup) : Inv W g st' w :=
  ⟨h.mem, fun x hx => h.obj x (hs x hx), hn, fun x hx => h.low x (hs x hx), h.cap, h.below⟩
theorem Inv.perm {W : World} {g : Gh} {st st' : St} {w : World} (h : Inv W g st w) (hp : st'.Perm st) : Inv W g st' w :=
  h.sub (fun _ hx => hp.mem_iff.1 hx) ((hp.map _).nodup_iff.2 h.nodup)
theorem Inv.sublist {W : World} {g : Gh} {st st' : St} {w : World} (h : Inv W g st w) (hp : st'.Sublist st) : Inv W g st' w :=
  h.sub (fun _ hx => hp.subset hx) (h.nodup.sublist (hp.map _))
theorem VSel.subperm {s t : St} (h : VSel s t) : ∃ r, (s ++ r).Perm t := by
  induction h with
  | nil => exact ⟨_, .refl _⟩
  | @cons x r st i h k ih =>
    obtain ⟨r', hp⟩ := ih
    have hi : i < st.length := (List.getElem?_eq_some_iff.1 h).1
    have hx : st[i] = x := (List.getElem?_eq_some_iff.1 h).2
    refine ⟨r', ?_⟩
    have h1 : (x :: st.eraseIdx i).Perm st := by
      have e : st = st.take i ++ st[i] :: st.drop (i + 1) := by
        rw [← List.drop_eq_getElem_cons hi, List.take_append_drop]
      rw [List.eraseIdx_eq_take_drop_succ, ← hx]
      conv => rhs; rw [e]
      exact List.perm_middle.symm
    exact (List.Perm.cons x hp).trans h1
theorem Inv.sel {W : World} {g : Gh} {s t F : St} {w : World} (h : Inv W g (t ++ F) w) (hs : VSel s t) : Inv W g (s ++ F) w := by
  obtain ⟨r, hp⟩ := hs.subperm
  have h1 : (r ++ (s ++ F)).Perm (t ++ F) := by
    rw [← List.append_assoc]; exact (List.Perm.append_right F (List.perm_append_comm.trans hp))
  exact (h.perm h1).sublist (List.sublist_append_right r _)

/-- What a store into one block leaves: 'us' are its cells now. -/
structure Wrote (w w' : World) (b : Nat) (us : List Value) (T : TypeId) (fr : Nat × Nat) : Prop where
  at_ : w'.heap[b]? = some (.cells ⟨us⟩ T fr)
  other : ∀ k, k ≠ b → w'.heap[k]? = w.heap[k]?
  size : w'.heap.size = w.heap.size
  os : w'.os = w.os
  tape : w'.tape = w.tape
  output : w'.output = w.output
theorem Wrote.refl {w : World} {b : Nat} {us : List Value} {T : TypeId} {fr : Nat × Nat} (h : w.heap[b]? = some (.cells ⟨us⟩ T fr)) : Wrote w w b us T fr :=
  ⟨h, fun _ _ => rfl, rfl, rfl, rfl, rfl⟩
theorem Wrote.trans {w w1 w2 : World} {b : Nat} {us vs : List Value} {T T' : TypeId} {fr fr' : Nat × Nat} (h : Wrote w w1 b us T fr) (k : Wrote w1 w2 b vs T' fr') : Wrote w w2 b vs T' fr' :=
  ⟨k.at_, fun i hi => (k.other i hi).trans (h.other i hi), k.size.trans h.size, k.os.trans h.os, k.tape.trans h.tape, k.output.trans h.output⟩

theorem wrote_setCell {w : World} {b : Nat} {us : List Value} {T : TypeId} {fr : Nat × Nat} (h : w.heap[b]? = some (.cells ⟨us⟩ T fr)) (i : Nat) (v : Value) :
    Wrote w (w.setCell ⟨b, i, none⟩ v) b (us.set i v) T fr := by
  refine ⟨?_, fun k hk => RowKit.Below.heap_setCell _ _ _ _ hk, by simp, rfl, rfl, rfl⟩
  simp only [World.setCell, Array.getElem?_modify, h]
  simp

theorem run_storeCells {P : Program} {b o : Nat} : ∀ (vs us : List Value) (T : TypeId) (lo hi : Nat) (w : World) (i : Nat), w.heap[b]? = some (.cells ⟨us⟩ T (lo, hi)) →
    (∀ v ∈ vs, v.oneCell' = true) → (∀ j, j < us.length → ¬ (lo ≤ j ∧ j < hi)) → o + i + vs.length ≤ us.length →
    ∃ w', (storeCells ⟨b, o, none⟩ vs i).run P w = .ok () w' ∧ Wrote w w' b (us.take (o + i) ++ vs ++ us.drop (o + i + vs.length)) T (lo, hi)
  | [], us, T, lo, hi, w, i, h, _, _, _ => ⟨w, rfl, by simpa using Wrote.refl h⟩
  | v :: vs, us, T, lo, hi, w, i, h, hv, hf, hl => by
    simp only [List.length_cons] at hl
    have ha : (⟨b, o, none⟩ : Addr).add i = ⟨b, o + i, none⟩ := by
      unfold Addr.add; split <;> simp_all
    have hc : w.cell? ⟨b, o + i, none⟩ = us[o + i]? := cell_of h _
    have hs : us[o + i]? = some us[o + i] := List.getElem?_eq_getElem (by omega)
    have hfr : w.frozen? ⟨b, o + i, none⟩ = false := by
      have := hf (o + i) (by omega)
      simp only [World.frozen?, h]
      simp only [Bool.and_eq_false_iff, decide_eq_false_iff_not]
      omega
    have h1 := wrote_setCell h (o + i) v
    obtain ⟨w', hr, hw⟩ := run_storeCells (P := P) (b := b) (o := o) vs (us.set (o + i) v) T lo hi (w.setCell ⟨b, o + i, none⟩ v) (i + 1) h1.at_
      (fun x hx => hv x (List.mem_cons_of_mem _ hx)) (by simpa using hf) (by simp; omega)
    refine ⟨w', ?_, ?_⟩
    · show ((store ((⟨b, o, none⟩ : Addr).add i) v).bind fun _ => storeCells ⟨b, o, none⟩ vs (i + 1)).run P w = _
      rw [ha, Sem.run_bind', run_store P w _ v _ (hv v (List.mem_cons_self ..)), hc, hs]
      simp only [hfr, Bool.false_eq_true, if_false, Result.andThen_ok]
      exact hr
    · refine h1.trans ?_
      have e : (us.set (o + i) v).take (o + (i + 1)) ++ vs ++ (us.set (o + i) v).drop (o + (i + 1) + vs.length) = us.take (o + i) ++ (v :: vs) ++ us.drop (o + i + (vs.length + 1)) := by
        have e1 : (us.set (o + i) v).take (o + (i + 1)) = us.take (o + i) ++ [v] := by
          rw [show o + (i + 1) = o + i + 1 by omega, List.take_succ_eq_append_getElem (by simp; omega)]
          simp [List.take_set_of_le]
        have e2 : (us.set (o + i) v).drop (o + (i + 1) + vs.length) = us.drop (o + i + (vs.length + 1)) := by
          rw [show o + (i + 1) + vs.length = o + i + (vs.length + 1) by omega, List.drop_set_of_lt (by omega)]
        rw [e1, e2]; simp
      rw [e] at hw
      simpa using hw
end Go.Av

namespace Go.Av
open Go

/-! ### The table of types -/
theorem relB_rel {a : AV} {v : Value} (h : relB a v = true) (g : Gh) : Rel g a v ∧ a.one = true := by
  unfold relB at h
  split at h <;> simp_all [Rel, AV.one]
theorem relBs_rel : ∀ {l : List AV} {us : List Value}, relBs l us = true → ∀ g, RelL g true l us
  | [], [], _, _ => rfl
  | a :: l, v :: r, h, g => by
    simp [relBs] at h; exact ⟨v, r, rfl, ⟨(relB_rel h.1 g).1, fun _ => (Rel.one_cells (relB_rel h.1 g).2 (relB_rel h.1 g).1).2⟩, relBs_rel h.2 g⟩
  | [], _ :: _, h, _ => by simp [relBs] at h
  | _ :: _, [], h, _ => by simp [relBs] at h

theorem Tab.get_ok {P : Program} {t : TypeId} {k : TyI → Prop} : ∀ {tb : Tab}, TabOk P tb → tb.get t k → ∃ ti, tyB P t ti = true ∧ k ti
  | [], _, h => h.elim
  | (s, v) :: r, hb, h => by
    unfold TabOk tabB at hb
    simp only [Bool.and_eq_true] at hb
    unfold Tab.get at h
    cases e : Nat.beq s t with
    | true => rw [e] at h; have := Nat.eq_of_beq_eq_true e; subst this; exact ⟨v, hb.1, h⟩
    | false => rw [e] at h; exact Tab.get_ok (tb := r) hb.2 h

theorem tyB_kind {P : Program} {t : TypeId} {ti : TyI} (h : tyB P t ti = true) : kindB P t ti.kind = true := by
  simp only [tyB, Bool.and_eq_true] at h; exact h.1.1.1.1
theorem tyB_info {P : Program} {t : TypeId} {ti : TyI} (h : tyB P t ti = true) : ∃ i z, P.info? t = some i ∧ i.size = ti.size ∧ i.bytes = ti.bytes ∧ i.zero = some z ∧ zeroB ti z = true := by
  simp only [tyB, Bool.and_eq_true] at h
  obtain ⟨⟨⟨⟨_, h⟩, _⟩, _⟩, _⟩ := h
  split at h
  · rename_i i e
    simp only [Bool.and_eq_true, beq_iff_eq] at h
    obtain ⟨⟨h1, h2⟩, h3⟩ := h
    split at h3
    · rename_i z ez; exact ⟨i, z, e, h1, h2, ez, h3⟩
    · cases h3
  · cases h
theorem tyB_plain {P : Program} {t : TypeId} {ti : TyI} (h : tyB P t ti = true) (hp : ti.plain = true) : P.eqGuardType P.depth t = false ∧ P.stoodInHeld t = false := by
  simp only [tyB, Bool.and_eq_true] at h
  have h1 := h.1.1.2
  simp only [hp, Bool.not_true, Bool.false_or, Bool.and_eq_true, Bool.not_eq_true'] at h1
  exact h1.1
theorem tyB_comp {P : Program} {t : TypeId} {ti : TyI} (h : tyB P t ti = true) (hp : ti.plain = true) : ∃ i, P.info? t = some i ∧ i.comparable = true := by
  simp only [tyB, Bool.and_eq_true] at h
  have h1 := h.1.1.2
  simp only [hp, Bool.not_true, Bool.false_or, Bool.and_eq_true] at h1
  have h1 := h1.2
  split at h1
  · exact ⟨_, by assumption, h1⟩
  · cases h1
theorem tyB_arr {P : Program} {t : TypeId} {ti : TyI} (h : tyB P t ti = true) {n : Nat} {e : TypeId} (ha : ti.arr = some (n, e)) : P.underlying t = some (.array n e) := by
  simp only [tyB, Bool.and_eq_true] at h
  have h1 := h.2
  rw [ha] at h1
  dsimp only at h1
  split at h1
  · rename_i n' e' hu
    simp only [Bool.and_eq_true, beq_iff_eq] at h1
    rw [hu, h1.1, h1.2]
  · cases h1
theorem tyB_bytes {P : Program} {t : TypeId} {ti : TyI} (h : tyB P t ti = true) : ti.bytes ≤ 1073741824 := by
  simp only [tyB, Bool.and_eq_true] at h
  exact Nat.le_of_ble_eq_true h.1.2
section kinds
variable {P : Program} {t : TypeId}
theorem kind_bool (h : kindB P t .bool = true) : P.underlying t = some .bool := by unfold kindB at h; split at h <;> simp_all
theorem kind_int {k : IntKind} (h : kindB P t (.int k) = true) : P.underlying t = some (.int k) := by unfold kindB at h; split at h <;> simp_all
theorem kind_str (h : kindB P t .str = true) : P.underlying t = some .string := by unfold kindB at h; split at h <;> simp_all
theorem kind_ptr {e : TypeId} (h : kindB P t (.ptr e) = true) : P.underlying t = some (.pointer e) := by unfold kindB at h; split at h <;> simp_all
theorem kind_slice {e : TypeId} (h : kindB P t (.slice e) = true) : P.underlying t = some (.slice e) := by unfold kindB at h; split at h <;> simp_all
theorem kind_map {k e : TypeId} (h : kindB P t (.map k e) = true) : P.underlying t = some (.map k e) := by unfold kindB at h; split at h <;> simp_all
theorem kind_struct {fs : List FI} (h : kindB P t (.struct fs) = true) : ∃ xs, P.underlying t = some (.struct xs) ∧ fieldsB P fs xs.toList = true := by unfold kindB at h; split at h <;> simp_all
theorem kind_iface (h : kindB P t .iface = true) : ∃ ms, P.underlying t = some (.interface ms) := by unfold kindB at h; split at h <;> simp_all
theorem kind_func (h : kindB P t .func = true) : ∃ a b c, P.underlying t = some (.func a b c) := by unfold kindB at h; split at h <;> simp_all
end kinds
theorem fieldsB_nth {P : Program} : ∀ {fs : List FI} {xs : List Field} {k : FI → Prop} (i : Nat), fieldsB P fs xs = true → nthF fs i k → ∃ f x, fs[i]? = some f ∧ xs[i]? = some x ∧ fieldB P f x = true ∧ k f
  | [], _, _, _, _, h => h.elim
  | f :: fs, [], _, _, hb, _ => by simp [fieldsB] at hb
  | f :: fs, x :: xs, k, 0, hb, h => by simp [fieldsB] at hb; exact ⟨f, x, rfl, rfl, hb.1, h⟩
  | f :: fs, x :: xs, k, i + 1, hb, h => by
    simp [fieldsB] at hb
    obtain ⟨f', x', h1, h2, h3, h4⟩ := fieldsB_nth (xs := xs) i hb.2 h
    exact ⟨f', x', by simpa using h1, by simpa using h2, h3, h4⟩
theorem fieldB_spec {P : Program} {f : FI} {x : Field} (h : fieldB P f x = true) : f.off = x.offset ∧ f.ty = x.type ∧ x.name ≠ "_" ∧ (∃ i, P.info? x.type = some i ∧ i.size = f.size) ∧ f.agg = aggT P x.type ∧ ∃ d, P.underlying x.type = some d := by
  simp only [fieldB, Bool.and_eq_true, beq_iff_eq, bne_iff_ne] at h
  obtain ⟨⟨⟨⟨⟨h1, h2⟩, h3⟩, h4⟩, h5⟩, h6⟩ := h
  refine ⟨h1, h2, h3, ?_, h5, Option.isSome_iff_exists.1 h6⟩
  split at h4
  · rename_i i e; exact ⟨i, e, by simpa using h4⟩
  · cases h4

section runs
variable {P : Program} {w : World} {t : TypeId}
theorem run_und {d : TypeDesc} (h : P.underlying t = some d) : (underlying t).run P w = .ok d w := by simp [underlying, h]
theorem run_info {i : TypeInfo} (h : P.info? t = some i) : (typeInfo t).run P w = .ok i w := by simp [typeInfo, h]
theorem run_size {i : TypeInfo} (h : P.info? t = some i) : (sizeOf t).run P w = .ok i.size w := by simp [sizeOf, run_info h]
theorem run_zero {i : TypeInfo} {z : Value} (h : P.info? t = some i) (hz : i.zero = some z) : (zeroValue t).run P w = .ok z w := by simp [zeroValue, run_info h, hz]
end runs

/-! ### The frame's slots -/
theorem Env.get_look {t : Nat} {k : AV → Prop} : ∀ {env : Env}, env.get t k → ∃ v, env.look t = some v ∧ k v
  | [], h => h.elim
  | (s, v) :: r, h => by
    unfold Env.get at h
    unfold Env.look
    cases e : Nat.beq s t with
    | true => rw [e] at h; rw [if_pos (Nat.eq_of_beq_eq_true e)]; exact ⟨v, rfl, h⟩
    | false => rw [e] at h; rw [if_neg (fun e' => by subst e'; simp at e)]; exact Env.get_look (env := r) h
theorem EnvR.mono {n : Nat} {g h : Gh} {env : Env} {a : Act} (r : EnvR n g env a) (le : Gh.le g h) : EnvR n h env a :=
  ⟨r.size, fun t v e => let ⟨u, h1, h2⟩ := r.look t v e; ⟨u, h1, h2.mono le⟩⟩
theorem EnvR.put {n : Nat} {g : Gh} {env : Env} {a : Act} (r : EnvR n g env a) {d : Nat} (hd : d < n) {v : AV} {u : Value} (h : Rel g v u) : EnvR n g ((d, v) :: env) (a.put (some d) u) := by
  refine ⟨by simp [Act.put, r.size], fun t x e => ?_⟩
  unfold Env.look at e
  by_cases ht : d = t
  · subst ht; simp at e; subst e
    exact ⟨u, by simp [Act.put, r.size, hd], h⟩
  · rw [if_neg ht] at e
    obtain ⟨u', h1, h2⟩ := r.look t x e
    exact ⟨u', by simp [Act.put, Array.getElem?_setIfInBounds_ne ht, h1], h2⟩
theorem EnvR.fact {n : Nat} {g : Gh} {env : Env} {a : Act} (r : EnvR n g env a) {d : Nat} {v : AV} (h : ∃ u, a.tmps[d]? = some u ∧ Rel g v u) : EnvR n g ((d, v) :: env) a := by
  refine ⟨r.size, fun t x e => ?_⟩
  unfold Env.look at e
  by_cases ht : d = t
  · subst ht; simp at e; subst e; exact h
  · rw [if_neg ht] at e; exact r.look t x e

theorem valK_sound {v : Value} {k : AV → Prop} (h : valK v k) (g : Gh) : ∃ x, Rel g x v ∧ k x := by
  unfold valK at h
  split at h
  all_goals first
    | (refine ⟨_, ?_, h⟩; first | exact rfl | exact ⟨[], rfl, rfl⟩)
    | exact False.elim h
theorem evalK_sound {n : Nat} {g : Gh} {env : Env} {a : Act} (r : EnvR n g env a) {x : Operand} {k : AV → Prop} (h : evalK env x k) : ∃ v, Rel g v (a.eval x) ∧ k v := by
  cases x with
  | tmp t =>
    obtain ⟨v, h1, h2⟩ := Env.get_look h
    obtain ⟨u, h3, h4⟩ := r.look t v h1
    exact ⟨v, by simpa [Act.eval, Array.getD_eq_getD_getElem?, h3] using h4, h2⟩
  | const v => obtain ⟨x, h1, h2⟩ := valK_sound h g; exact ⟨x, h1, h2⟩
  | global g => exact ⟨.gp g 0, rfl, h⟩
  | func f => exact ⟨.fn (.func f) [] [], ⟨[], [], rfl, rfl, rfl⟩, h⟩
theorem evalsK_sound {n : Nat} {g : Gh} {env : Env} {a : Act} (r : EnvR n g env a) : ∀ {xs : List Operand} {k : List AV → Prop}, evalsK env xs k → ∃ vs, RelL g false vs (xs.map a.eval) ∧ k vs
  | [], _, h => ⟨[], rfl, h⟩
  | x :: xs, k, h => by
    obtain ⟨v, h1, h2⟩ := evalK_sound r h
    obtain ⟨vs, h3, h4⟩ := evalsK_sound r h2
    exact ⟨v :: vs, ⟨_, _, rfl, ⟨h1, fun h => by cases h⟩, h3⟩, h4⟩
theorem partsK_sound {n : Nat} {g : Gh} {env : Env} {a : Act} (r : EnvR n g env a) : ∀ {ps : List (Nat × Operand)} {k : List (Nat × AV) → Prop}, partsK env ps k →
    ∃ vs, vs.map (·.1) = ps.map (·.1) ∧ RelL g false (vs.map (·.2)) (ps.map fun p => a.eval p.2) ∧ k vs
  | [], _, h => ⟨[], rfl, rfl, h⟩
  | p :: ps, k, h => by
    obtain ⟨v, h1, h2⟩ := evalK_sound r h
    obtain ⟨vs, h0, h3, h4⟩ := partsK_sound r h2
    exact ⟨(p.1, v) :: vs, by simp [h0], ⟨_, _, rfl, ⟨h1, fun h => by cases h⟩, h3⟩, h4⟩

/-! ### Operations -/
def OpOk (P : Program) (W : World) (F : St) (g : Gh) (K Kp : AV → St → Prop) : Result Next → Prop
  | .ok (.value u) w' => ∃ g' v st', Gh.le g g' ∧ Rel g' v u ∧ Inv W g' (st' ++ F) w' ∧ K v st'
  | .ok .skip w' => ∃ g' st', Gh.le g g' ∧ Inv W g' (st' ++ F) w' ∧ K (.tup []) st'
  | .ok (.enter f args) w' => Calls P f args w' fun e w'' => ∃ g' out st', Gh.le g g' ∧ OutR g' out e ∧ Inv W g' (st' ++ F) w'' ∧ retK out (fun v => K v st') (fun v => Kp v st')
  | .halt (.panic u) w' => ∃ g' v st', Gh.le g g' ∧ Rel g' v u ∧ Inv W g' (st' ++ F) w' ∧ Kp v st'
  | _ => False
end Go.Av

namespace Go.Av
open Go

theorem zeroB_cells {ti : TyI} {z : Value} (h : zeroB ti z = true) (hk : ti.kind ≠ .other) (g : Gh) : RelL g true ti.zero z.cells.toList ∧ ti.zero.length = ti.size := by
  unfold zeroB at h
  split at h
  · split at h
    · simp only [Bool.and_eq_true, beq_iff_eq] at h
      exact ⟨relBs_rel h.1 g, h.2⟩
    · cases h
  · rename_i e; exact absurd e hk
  · split at h
    · rename_i a e
      simp only [Bool.and_eq_true, beq_iff_eq] at h
      obtain ⟨h1, h2⟩ := relB_rel h.1 g
      have := Rel.one_cells h2 h1
      rw [this.1, e]
      exact ⟨⟨z, [], rfl, ⟨h1, fun _ => this.2⟩, rfl⟩, by simp [h.2]⟩
    · cases h

section
variable {P : Program} {tb : Tab} {n : Nat} {W : World} {F : St} {g : Gh} {env : Env} {st : St} {a : Act} {w : World} {K Kp : AV → St → Prop}

theorem OpOk.val {r : Result Next} {u : Value} {w' : World} (e : r = .ok (.value u) w') {g' : Gh} {v : AV} {st' : St} (le : Gh.le g g') (hr : Rel g' v u) (hi : Inv W g' (st' ++ F) w') (hk : K v st') : OpOk P W F g K Kp r := by
  subst e; exact ⟨g', v, st', le, hr, hi, hk⟩
theorem OpOk.same {r : Result Next} {u : Value} (e : r = .ok (.value u) w) {v : AV} (hr : Rel g v u) (hi : Inv W g (st ++ F) w) (hk : K v st) : OpOk P W F g K Kp r :=
  .val e (Gh.le_refl g) hr hi hk

theorem exec_val {dst ty pos after guard} {op : Op} {S : Sem Value} {ρ : Operand → Value} {u : Value} {w' : World}
    (he : execOp ρ ⟨dst, op, ty, pos, after, guard⟩ = (do pure (.value (← S)))) (hS : S.run P w = .ok u w') :
    (execOp ρ ⟨dst, op, ty, pos, after, guard⟩).run P w = .ok (.value u) w' := by
  rw [he]; simp [hS]

theorem ok_move {dst ty pos after guard} {x : Operand} (h : evalK env x fun v => K v st) (r : EnvR n g env a) (inv : Inv W g (st ++ F) w) :
    OpOk P W F g K Kp ((execOp a.eval ⟨dst, .move x, ty, pos, after, guard⟩).run P w) := by
  obtain ⟨v, h1, h2⟩ := evalK_sound r h
  exact .same rfl h1 inv h2
theorem ok_assign {dst ty pos after guard} {x : Operand} (h : evalK env x fun v => K v st) (r : EnvR n g env a) (inv : Inv W g (st ++ F) w) :
    OpOk P W F g K Kp ((execOp a.eval ⟨dst, .assign x, ty, pos, after, guard⟩).run P w) := by
  obtain ⟨v, h1, h2⟩ := evalK_sound r h
  exact .same rfl h1 inv h2
theorem ok_pick {dst ty pos after guard} {c x y : Operand} (h : opW P tb (.pick c x y) env st K Kp) (r : EnvR n g env a) (inv : Inv W g (st ++ F) w) :
    OpOk P W F g K Kp ((execOp a.eval ⟨dst, .pick c x y, ty, pos, after, guard⟩).run P w) := by
  obtain ⟨v, h1, h2⟩ := evalK_sound r h
  split at h2
  · rename_i b
    have h1 : a.eval c = .bool b := h1
    cases b with
    | true =>
      obtain ⟨v, h3, h4⟩ := evalK_sound r (h2.t rfl)
      exact .same (u := a.eval x) (by simp [execOp, h1, asBool]) h3 inv h4
    | false =>
      obtain ⟨v, h3, h4⟩ := evalK_sound r (h2.f rfl)
      exact .same (u := a.eval y) (by simp [execOp, h1, asBool]) h3 inv h4
  · exact h2.elim

/-- A new box. -/
theorem Inv.newBox (inv : Inv W g (st ++ F) w) (T : TypeId) {cs : List AV} {us : Array Value} (hr : RelL g true cs us.toList) :
    Inv W g (((w.heap.size, .box cs) :: st) ++ F) (w.alloc (.cells us T)) :=
  inv.alloc _ _ (Gh.le_refl g) (fun _ _ => rfl) (fun b n e => Nat.lt_succ_of_lt (inv.cap b n e))
    ⟨us.toList, T, 0, 0, heap_alloc_new w _, hr, fun i _ => by omega, fun o => inv.mu_none (Nat.le_refl _) o⟩

theorem ok_alloc {dst ty pos after guard} {t : TypeId} (htb : TabOk P tb) (h : opW P tb (.alloc t) env st K Kp) (inv : Inv W g (st ++ F) w) :
    OpOk P W F g K Kp ((execOp a.eval ⟨dst, .alloc t, ty, pos, after, guard⟩).run P w) := by
  obtain ⟨ti, h1, h2⟩ := Tab.get_ok htb h
  obtain ⟨i, z, hi, hs, hb, hz, hzb⟩ := tyB_info h1
  split at h2
  · exact h2.elim
  · rename_i hk
    have hc := (zeroB_cells hzb hk g).1
    refine .val (u := .pointer (some ⟨w.heap.size, 0, none⟩)) (w' := w.alloc (.cells z.cells t)) (v := .ptr w.heap.size 0) ?_ (Gh.le_refl g) rfl (inv.newBox t hc) (h2.all _)
    exact exec_val rfl (by simp [Instr.alloc, run_zero hi hz, newVar, newRow])

/-- A value as the cells of a variable of its type. -/
theorem lenK_sound : ∀ {l : List AV} {k : Nat → Prop}, lenK l k → k l.length
  | [], _, h => h
  | _ :: l, k, h => by
    have h : lenK l (fun n => k (n + 1)) := h
    have := lenK_sound (l := l) h
    simpa using this
theorem cellsK_sound {ti : TyI} {v : AV} {k : List AV → Prop} (h : cellsK ti v k) {u : Value} (hr : Rel g v u) :
    ∃ cs, RelL g true cs u.cells.toList ∧ k cs ∧ (∀ z, zeroB ti z = true → cs.length = ti.size) := by
  unfold cellsK at h
  split at h
  · split at h
    · rename_i cs
      have h := lenK_sound h
      obtain ⟨us, rfl, hr⟩ := hr
      split at h
      · rename_i e
        exact ⟨cs, hr, h, fun _ _ => Nat.eq_of_beq_eq_true e⟩
      · exact h.elim
    · exact h.elim
  · exact h.elim
  · rename_i h1 h2
    obtain ⟨h3, h4⟩ := h
    have := Rel.one_cells h3 hr
    refine ⟨[v], ?_, h4, fun z hz => ?_⟩
    · rw [this.1]; exact ⟨u, [], rfl, ⟨hr, fun _ => this.2⟩, rfl⟩
    · unfold zeroB at hz
      split at hz
      · rename_i e; exact absurd e (h1 _)
      · rename_i e; exact absurd e h2
      · split at hz
        · simp at hz; simp [hz.2]
        · cases hz
theorem ok_box {dst ty pos after guard} {t : TypeId} {x : Operand} (htb : TabOk P tb) (h : opW P tb (.box t x) env st K Kp) (r : EnvR n g env a) (inv : Inv W g (st ++ F) w) :
    OpOk P W F g K Kp ((execOp a.eval ⟨dst, .box t x, ty, pos, after, guard⟩).run P w) := by
  obtain ⟨v, h1, h2⟩ := evalK_sound r h
  obtain ⟨ti, h3, h4⟩ := Tab.get_ok htb h2
  obtain ⟨cs, h5, h6, _⟩ := cellsK_sound h4 h1
  refine .val (u := .pointer (some ⟨w.heap.size, 0, none⟩)) (w' := w.alloc (.cells (a.eval x).cells t)) (v := .ptr w.heap.size 0) ?_ (Gh.le_refl g) rfl (inv.newBox t h5) (h6.all _)
  exact exec_val rfl (by simp [Instr.box, newVar, newRow])

/-! ### An object that turns -/
theorem Inv.upd (inv : Inv W g (st ++ F) w) {m b : Nat} {o o' : AObj} (hm : st[m]? = some (b, o)) {g' : Gh} {w' : World} (le : Gh.le g g')
    (hμ : ∀ b', b' ≠ b → ∀ i, g'.μ b' i = g.μ b' i) (hκ : ∀ b n, g'.κ b = some n → b < w.heap.size) (hmem : ∀ i u, g'.μ b i = some u → w'.cell? ⟨b, i, none⟩ = some u)
    (hoth : ∀ k, k ≠ b → w'.heap[k]? = w.heap[k]?) (hsize : w'.heap.size = w.heap.size) (hbel : RowKit.Below W.heap.size W w') (hr : ObjR g' w' b o') :
    Inv W g' (st.set m (b, o') ++ F) w' := by
  have hlt : m < st.length := (List.getElem?_eq_some_iff.1 hm).1
  have hget : st[m] = (b, o) := (List.getElem?_eq_some_iff.1 hm).2
  have hkeys : (st.set m (b, o') ++ F).map (·.1) = (st ++ F).map (·.1) := by
    rw [List.map_append, List.map_append, List.map_set]
    congr 1
    apply List.ext_getElem (by simp)
    intro i h1 h2
    rw [List.getElem_set]
    split
    · rename_i e; subst e; simp [hget]
    · rfl
  have hset : st.set m (b, o') ++ F = (st ++ F).set m (b, o') := (List.set_append_left _ _ hlt).symm
  have hmem' : ∀ x ∈ st.set m (b, o') ++ F, x = (b, o') ∨ (x ∈ st ++ F ∧ x.1 ≠ b) := by
    intro x hx
    rw [hset] at hx
    obtain ⟨i, hi, rfl⟩ := List.mem_iff_getElem.1 hx
    have hi' : i < (st ++ F).length := by simpa using hi
    rw [List.getElem_set]
    split
    · exact .inl rfl
    · rename_i hne
      refine .inr ⟨List.getElem_mem _, fun e => hne ?_⟩
      have hnd := inv.nodup
      have h1 : ((st ++ F).map (·.1))[m]'(by simp; omega) = b := by rw [List.getElem_map, List.getElem_append_left hlt, hget]
      have h2 : ((st ++ F).map (·.1))[i]'(by simp at hi' ⊢; exact hi') = b := by rw [List.getElem_map]; exact e
      exact (List.getElem_inj hnd).1 (h1.trans h2.symm)
  refine ⟨fun b' i u e => ?_, fun x hx => ?_, by rw [hkeys]; exact inv.nodup, fun x hx => ?_, fun b n e => by rw [hsize]; exact hκ b n e, hbel⟩
  · by_cases hb : b' = b
    · subst hb; exact hmem i u e
    · rw [hμ _ hb] at e
      have := inv.mem _ _ _ e
      rw [← this]
      simp only [World.cell?, hoth _ hb]
  · rcases hmem' x hx with rfl | ⟨hx, hne⟩
    · exact hr
    · exact ((inv.obj x hx).world (hoth _ hne)).gh le fun i e => by rw [hμ _ hne]; exact e
  · rcases hmem' x hx with rfl | ⟨hx, _⟩
    · exact inv.low (b, o) (List.mem_append_left _ (hget ▸ List.getElem_mem hlt))
    · exact inv.low x hx
theorem Inv.objAt (inv : Inv W g (st ++ F) w) {m b : Nat} {o : AObj} (hm : st[m]? = some (b, o)) : ObjR g w b o :=
  inv.obj (b, o) (List.mem_append_left _ (List.mem_of_getElem? hm))
theorem Inv.lowAt (inv : Inv W g (st ++ F) w) {m b : Nat} {o : AObj} (hm : st[m]? = some (b, o)) : W.heap.size ≤ b :=
  inv.low (b, o) (List.mem_append_left _ (List.mem_of_getElem? hm))
theorem Wrote.below {w w' : World} {b : Nat} {us : List Value} {T : TypeId} {fr : Nat × Nat} (h : Wrote w w' b us T fr) {W : World} (hb : RowKit.Below W.heap.size W w) (hl : W.heap.size ≤ b) :
    RowKit.Below W.heap.size W w' :=
  hb.trans ⟨h.os, h.tape, h.output, by rw [h.size]; exact Nat.le_refl _, fun k hk => h.other k (by omega)⟩

/-! ### Slices that are not written any more -/
theorem VFz.sound {vs : List AV} {st0 : St} {C : List AV → St → Prop} (h : VFz vs st0 C) : ∀ {g : Gh} {q : Bool} {us : List Value}, RelL g q vs us → Inv W g (st0 ++ F) w →
    ∃ g' vs' st', Gh.le g g' ∧ RelL g' q vs' us ∧ Inv W g' (st' ++ F) w ∧ C vs' st' := by
  induction h with
  | nil h => intro g q us r inv; exact ⟨g, [], _, Gh.le_refl g, r, inv, h⟩
  | keep _ ih =>
    intro g q us ⟨u, ws, e, r, rs⟩ inv
    obtain ⟨g', vs', st', le, h1, h2, h3⟩ := ih rs inv
    exact ⟨g', _ :: vs', st', le, ⟨u, ws, e, ⟨r.1.mono le, r.2⟩, h1⟩, h2, h3⟩
  | nils _ ih =>
    intro g q us ⟨u, ws, e, r, rs⟩ inv
    obtain ⟨g', vs', st', le, h1, h2, h3⟩ := ih rs inv
    refine ⟨g', .fz [] 0 false :: vs', st', le, ⟨u, ws, e, ⟨⟨none, 0, r.1, Nat.le_refl _, (fun h => by cases h), .inl ⟨rfl, rfl⟩⟩, r.2⟩, h1⟩, h2, h3⟩
  | full _ ih =>
    intro g q us ⟨u, ws, e, r, rs⟩ inv
    obtain ⟨g', vs', st', le, h1, h2, h3⟩ := ih rs inv
    obtain ⟨⟨a, cap, e1, e2, e3, e4⟩, ho⟩ := r
    exact ⟨g', .fz _ _ false :: vs', st', le, ⟨u, ws, e, ⟨Rel.mono le (.fz _ _ false) _ ⟨a, cap, e1, e2, (fun h => by cases h), e4⟩, ho⟩, h1⟩, h2, h3⟩
  | @own b m r st C n esz cells z h1 h2 _ ih =>
    intro g q us ⟨u, ws, e, hr, rs⟩ inv
    have ho := inv.objAt h1
    obtain ⟨us', vs', T, lo, hi, cap, hh, hrel, hfr, hk, hlen, hmu⟩ := ho
    obtain ⟨⟨cap', e1, e2, e3⟩, ho⟩ := hr
    rw [hk] at e2; cases e2
    have hul := hrel.length
    let g' : Gh := ⟨fun b' i => if b' = b ∧ i < m * esz then us'[i]? else g.μ b' i, g.κ⟩
    have le : Gh.le g g' := by
      refine ⟨fun b' o u' hm => ?_, fun _ _ h => h⟩
      show (if b' = b ∧ o < m * esz then us'[o]? else g.μ b' o) = some u'
      split
      · rename_i hc
        obtain ⟨rfl, hc⟩ := hc
        have := inv.mem _ _ _ hm
        rw [cell_of hh, List.getElem?_append_left (by omega)] at this
        exact this
      · exact hm
    have inv' : Inv W g' (st.set n (b, .arr esz cells (max z (m * esz))) ++ F) w := by
      refine inv.upd h1 le (fun b' hb' i => ?_) inv.cap (fun i u' hm => ?_) (fun _ _ => rfl) rfl inv.below ⟨us', vs', T, lo, hi, cap, hh, hrel.mono le, hfr, hk, hlen, fun o ho => ?_⟩
      · show (if b' = b ∧ i < m * esz then us'[i]? else g.μ b' i) = _
        rw [if_neg (fun h => hb' h.1)]
      · change (if b = b ∧ i < m * esz then us'[i]? else g.μ b i) = some u' at hm
        split at hm
        · rename_i hc
          rw [cell_of hh, List.getElem?_append_left (by omega)]; exact hm
        · exact inv.mem _ _ _ hm
      · show (if b = b ∧ o < m * esz then us'[o]? else g.μ b o) = none
        rw [if_neg (by omega)]; exact hmu o (by omega)
    obtain ⟨g'', vs'', st', le', k1, k2, k3⟩ := ih (rs.mono le) inv'
    refine ⟨g'', .fz (cells.take (m * esz)) m false :: vs'', st', Gh.le_trans le le', ⟨u, ws, e, ⟨Rel.mono le' (.fz (cells.take (m * esz)) m false) _ ⟨some ⟨b, 0, none⟩, cap, e1, e3, (fun h => by cases h), .inr ⟨b, 0, rfl, ?_⟩⟩, ho⟩, k1⟩, k2, k3⟩
    refine Cells.of_nth fun i v hv => ?_
    have hi' : i < m * esz := by
      have := (List.getElem?_eq_some_iff.1 hv).1
      simp at this; omega
    rw [List.getElem?_take_of_lt hi'] at hv
    obtain ⟨u', x1, x2, x3⟩ := hrel.nth i hv
    refine ⟨u', ?_, x2.mono le, x3 rfl⟩
    show (if b = b ∧ 0 + i < m * esz then us'[0 + i]? else g.μ b (0 + i)) = some u'
    rw [if_pos ⟨rfl, by omega⟩, Nat.zero_add]; exact x1
end
end Go.Av

namespace Go.Av
open Go

theorem addr_add (b o i : Nat) : (⟨b, o, none⟩ : Addr).add i = ⟨b, o + i, none⟩ := by
  unfold Addr.add; split <;> simp_all
theorem setK_sound : ∀ {l : List AV} {n : Nat} {v : AV} {k : List AV → Prop}, setK l n v k → n < l.length ∧ k (l.set n v)
  | [], _, _, _, h => h.elim
  | x :: r, 0, v, k, h => ⟨by simp, h⟩
  | x :: r, n + 1, v, k, h => by
    have h : setK r n v (fun l => k (x :: l)) := h
    have := setK_sound (l := r) h
    exact ⟨by simp; exact this.1, this.2⟩
theorem splK_sound : ∀ {vs l : List AV} {n : Nat} {k : List AV → Prop}, splK l n vs k → (n + vs.length ≤ l.length ∨ vs = []) ∧ k (l.take n ++ vs ++ l.drop (n + vs.length))
  | [], l, n, k, h => ⟨.inr rfl, by unfold splK at h; simpa using h⟩
  | v :: r, l, n, k, h => by
    have h : setK l n v (fun l => splK l (n + 1) r k) := h
    obtain ⟨h1, h2⟩ := setK_sound h
    obtain ⟨h3, h4⟩ := splK_sound (vs := r) h2
    refine ⟨.inl ?_, ?_⟩
    · rcases h3 with h3 | h3
      · simp at h3 ⊢; omega
      · subst h3; simp; omega
    · have e1 : (l.set n v).take (n + 1) = l.take n ++ [v] := by
        rw [List.take_succ_eq_append_getElem (by simpa using h1)]; simp [List.take_set_of_le]
      have e2 : (l.set n v).drop (n + 1 + r.length) = l.drop (n + (v :: r).length) := by
        rw [List.drop_set_of_lt (by omega)]; congr 1; simp; omega
      rw [e1, e2] at h4
      simpa using h4
theorem stSetK_sound : ∀ {l : St} {n : Nat} {v : Nat × AObj} {k : St → Prop}, stSetK l n v k → k (l.set n v)
  | [], _, _, _, h => h.elim
  | x :: r, 0, v, k, h => h
  | x :: r, n + 1, v, k, h => by
    have h : stSetK r n v (fun l => k (x :: l)) := h
    exact stSetK_sound (l := r) h
theorem stDelK_sound : ∀ {l : St} {n : Nat} {k : St → Prop}, stDelK l n k → k (l.eraseIdx n)
  | [], _, _, h => h.elim
  | x :: r, 0, k, h => h
  | x :: r, n + 1, k, h => by
    have h : stDelK r n (fun l => k (x :: l)) := h
    exact stDelK_sound (l := r) h
theorem nthK_sound : ∀ {l : List AV} {n : Nat} {k : AV → Prop}, nthK l n k → ∃ v, l[n]? = some v ∧ k v
  | [], _, _, h => h.elim
  | x :: r, 0, k, h => ⟨x, rfl, h⟩
  | x :: r, n + 1, k, h => by obtain ⟨v, h1, h2⟩ := nthK_sound (l := r) h; exact ⟨v, by simpa using h1, h2⟩
theorem mulN_eq (j e : Nat) : mulN j e = j * e := by unfold mulN; split <;> simp

section
variable {P : Program} {tb : Tab} {n : Nat} {W : World} {F : St} {g : Gh} {env : Env} {st : St} {a : Act} {w : World} {K Kp : AV → St → Prop}

theorem run_isAgg_struct {t : TypeId} {xs : Array Field} (h : P.underlying t = some (.struct xs)) : (isAgg t).run P w = .ok true w := by
  simp [isAgg, run_und h]
theorem aggT_of_kind {t : TypeId} {k : TyK} (h : kindB P t k = true) (h1 : ∀ fs, k ≠ .struct fs) (h2 : k ≠ .other) : ∃ d, P.underlying t = some d ∧ (∀ xs, d ≠ .struct xs) ∧ (∀ n e, d ≠ .array n e) ∧ aggT P t = false := by
  cases k with
  | struct fs => exact absurd rfl (h1 fs)
  | other => exact absurd rfl h2
  | bool => exact ⟨_, kind_bool h, by simp, by simp, by simp [aggT, kind_bool h]⟩
  | int k => exact ⟨_, kind_int h, by simp, by simp, by simp [aggT, kind_int h]⟩
  | str => exact ⟨_, kind_str h, by simp, by simp, by simp [aggT, kind_str h]⟩
  | ptr e => exact ⟨_, kind_ptr h, by simp, by simp, by simp [aggT, kind_ptr h]⟩
  | slice e => exact ⟨_, kind_slice h, by simp, by simp, by simp [aggT, kind_slice h]⟩
  | map k e => exact ⟨_, kind_map h, by simp, by simp, by simp [aggT, kind_map h]⟩
  | iface => obtain ⟨ms, e⟩ := kind_iface h; exact ⟨_, e, by simp, by simp, by simp [aggT, e]⟩
  | func => obtain ⟨x, y, z, e⟩ := kind_func h; exact ⟨_, e, by simp, by simp, by simp [aggT, e]⟩
theorem run_isAgg_plain {t : TypeId} {d : TypeDesc} (h : P.underlying t = some d) (h1 : ∀ xs, d ≠ .struct xs) (h2 : ∀ n e, d ≠ .array n e) : (isAgg t).run P w = .ok false w := by
  simp only [isAgg, Sem.run_bind, run_und h, Result.andThen_ok]
  cases d <;> simp_all

/-- Loading, where the cells are known. -/
theorem loadK_sound {t : TypeId} {ti : TyI} (hty : tyB P t ti = true) {l : List AV} {o : Nat} {k : AV → Prop} (h : loadK ti l o k) {us : List Value} (hr : RelL g true l us) {b base : Nat}
    (hc : ∀ (i : Nat) u, us[i]? = some u → w.cell? ⟨b, base + i, none⟩ = some u) :
    ∃ u v, (Instr.loadAt t (.pointer (some ⟨b, base + o, none⟩))).run P w = .ok u w ∧ Rel g v u ∧ k v := by
  have hk := tyB_kind hty
  obtain ⟨i, z, hi, hs, _, _, _⟩ := tyB_info hty
  unfold loadK at h
  split at h
  · rename_i fs e
    rw [e] at hk
    obtain ⟨xs, hx, _⟩ := kind_struct hk
    obtain ⟨cs, h1, h2, h3⟩ := h
    have hr' : RelL g true cs ((us.drop o).take ti.size) := by rw [← h1]; exact (hr.drop o).take _
    have hlen : ((us.drop o).take ti.size).length = ti.size := by rw [hr'.length, h2]
    refine ⟨.agg ⟨(us.drop o).take ti.size⟩, .agg cs, ?_, ⟨_, rfl, hr'⟩, h3⟩
    have := run_loadCells_list (P := P) w ⟨b, base + o, none⟩ ((us.drop o).take ti.size) (fun j v hv => by
      rw [addr_add]
      have hj : j < ti.size := by have := (List.getElem?_eq_some_iff.1 hv).1; omega
      rw [List.getElem?_take_of_lt hj, List.getElem?_drop] at hv
      rw [show base + o + j = base + (o + j) by omega]; exact hc _ _ hv)
    rw [hlen] at this
    simp [Instr.loadAt, Instr.sureAddr, loadVar, run_isAgg_struct hx, run_size hi, hs, this]
  · exact h.elim
  · rename_i h1 h2
    obtain ⟨d, hd, hd1, hd2, _⟩ := aggT_of_kind hk h1 h2
    obtain ⟨v, h3, h4⟩ := h
    obtain ⟨u, h5, h6, _⟩ := hr.nth o h3
    refine ⟨u, v, ?_, h6, h4⟩
    simp [Instr.loadAt, Instr.sureAddr, loadVar, run_isAgg_plain hd hd1 hd2, hc _ _ h5]

theorem ok_load {dst ty pos after guard} {t : TypeId} {x : Operand} (htb : TabOk P tb) (hlay : Lay P W) (h : opW P tb (.load t x) env st K Kp) (r : EnvR n g env a) (inv : Inv W g (st ++ F) w) :
    OpOk P W F g K Kp ((execOp a.eval ⟨dst, .load t x, ty, pos, after, guard⟩).run P w) := by
  obtain ⟨v, h1, h2⟩ := evalK_sound r h
  obtain ⟨ti, h3, h4⟩ := Tab.get_ok htb h2
  cases v with
  | ptr b o =>
    have h1 : a.eval x = .pointer (some ⟨b, o, none⟩) := h1
    obtain ⟨m, ob, h5, h6⟩ := h4
    have ho := inv.objAt h5
    cases ob with
    | box cells =>
      obtain ⟨us, T, lo, hi, hh, hr, _, _⟩ := ho
      obtain ⟨u, v, h7, h8, h9⟩ := loadK_sound (w := w) h3 h6 hr (b := b) (base := 0) (fun i u e => by rw [cell_of hh]; simpa using e)
      rw [Nat.zero_add] at h7
      exact .same (u := u) (exec_val rfl (by rw [h1]; exact h7)) h8 inv h9
    | arr esz cells z =>
      obtain ⟨us, vs, T, lo, hi, cap, hh, hr, _, _⟩ := ho
      obtain ⟨u, v, h7, h8, h9⟩ := loadK_sound (w := w) h3 h6 hr (b := b) (base := 0) (fun i u e => by
        rw [cell_of hh]; rw [Nat.zero_add, List.getElem?_append_left (List.getElem?_eq_some_iff.1 e).1]; exact e)
      rw [Nat.zero_add] at h7
      exact .same (u := u) (exec_val rfl (by rw [h1]; exact h7)) h8 inv h9
    | map => exact h6.elim
    | siter => exact h6.elim
    | mapS => exact h6.elim
    | miter => exact h6.elim
  | fzp cells =>
    obtain ⟨b, o, e, hc⟩ := h1
    obtain ⟨us, hr, hm⟩ := hc.rel
    obtain ⟨u, v, h7, h8, h9⟩ := loadK_sound (w := w) h3 h4 hr (b := b) (base := o) (fun i u e => inv.mem _ _ _ (hm _ _ e))
    exact .same (u := u) (exec_val rfl (by rw [e]; exact h7)) h8 inv h9
  | gp b o =>
    have h1 : a.eval x = .pointer (some ⟨b, o, none⟩) := h1
    obtain ⟨cells, hl, hc, h5⟩ := h4
    have hcells : ∃ us, RelL g true cells us ∧ ∀ (i : Nat) u, us[i]? = some u → w.cell? ⟨b, o + i, none⟩ = some u := by
      have key : ∀ (l : List AV) (k : Nat), (∀ (i : Nat) c, l[i]? = some c → ∃ u, W.cell? ⟨b, o + (k + i), none⟩ = some u ∧ (∀ g, Rel g c u) ∧ u.oneCell' = true) →
          ∃ us, RelL g true l us ∧ ∀ (i : Nat) u, us[i]? = some u → w.cell? ⟨b, o + (k + i), none⟩ = some u := by
        intro l
        induction l with
        | nil => intro k _; exact ⟨[], rfl, fun i u hu => by simp at hu⟩
        | cons c l ih =>
          intro k hk
          obtain ⟨u, e1, e2, e3⟩ := hk 0 c rfl
          obtain ⟨us, r1, r2⟩ := ih (k + 1) (fun i c' hc' => by
            obtain ⟨v, q1, q2, q3⟩ := hk (i + 1) c' (by simpa using hc')
            exact ⟨v, by rw [← q1]; congr 2; omega, q2, q3⟩)
          refine ⟨u :: us, ⟨u, us, rfl, ⟨e2 g, fun _ => e3⟩, r1⟩, fun i v hv => ?_⟩
          cases i with
          | zero =>
            simp at hv
            subst hv
            unfold World.cell? at e1 ⊢
            dsimp only at e1 ⊢
            have hb : b < W.heap.size := by
              rcases Nat.lt_or_ge b W.heap.size with h | h
              · exact h
              · rw [Array.getElem?_eq_none h] at e1; simp at e1
            rw [inv.below.block b hb]
            exact e1
          | succ i =>
            have := r2 i v (by simpa using hv)
            rw [← this]; congr 2; omega
      obtain ⟨us, r1, r2⟩ := key cells 0 (fun i c hc' => by simpa using hc W hlay i c hc')
      exact ⟨us, r1, fun i u hu => by simpa using r2 i u hu⟩
    obtain ⟨us, hr, hm⟩ := hcells
    obtain ⟨u, v, h7, h8, h9⟩ := loadK_sound (w := w) h3 h5 hr (b := b) (base := o) (fun i u e => hm _ _ e)
    exact .same (u := u) (exec_val rfl (by rw [h1]; exact h7)) h8 inv h9
  | _ => exact h4.elim

theorem ok_store {dst ty pos after guard} {t : TypeId} {x y : Operand} (htb : TabOk P tb) (h : opW P tb (.store t x y) env st K Kp) (r : EnvR n g env a) (inv : Inv W g (st ++ F) w) :
    OpOk P W F g K Kp ((execOp a.eval ⟨dst, .store t x y, ty, pos, after, guard⟩).run P w) := by
  obtain ⟨v, h1, h2⟩ := evalK_sound r h
  obtain ⟨y', h1', h2⟩ := evalK_sound r h2
  obtain ⟨ti, h3, h4⟩ := Tab.get_ok htb h2
  obtain ⟨i, z, hi, hs, _, _, hz⟩ := tyB_info h3
  obtain ⟨cs, h5, h6, h7⟩ := cellsK_sound h4 h1'
  have hlen := h7 z hz
  cases v with
  | ptr b o =>
    have h1 : a.eval x = .pointer (some ⟨b, o, none⟩) := h1
    obtain ⟨m, ob, h8, h9⟩ := h6
    have ho := inv.objAt h8
    have hsz : (a.eval y).cells.size = ti.size := by rw [← hlen, ← h5.length]; simp
    have hrun : ∀ w', (storeCells ⟨b, o, none⟩ (a.eval y).cells.toList 0).run P w = .ok () w' → (execOp a.eval ⟨dst, .store t x y, ty, pos, after, guard⟩).run P w = .ok .skip w' := by
      intro w' hw
      simp [execOp, h1, Instr.storeAt, Instr.sureAddr, storeVar, run_size hi, hs, hsz, hw]
    cases ob with
    | box cells =>
      obtain ⟨us, T, lo, hi', hh, hr, hf, hmu⟩ := ho
      obtain ⟨h10, h11⟩ := splK_sound h9
      have h11 := stSetK_sound h11
      have hb : o + cs.length ≤ us.length ∨ cs = [] := by rw [hr.length]; exact h10
      rcases hb with hb | hb
      · obtain ⟨w', hw1, hw2⟩ := run_storeCells (P := P) (b := b) (o := o) (a.eval y).cells.toList us T lo hi' w 0 hh h5.ones hf (by rw [h5.length]; omega)
        rw [hrun w' hw1]
        refine ⟨g, _, Gh.le_refl g, ?_, h11⟩
        refine inv.upd h8 (Gh.le_refl g) (fun _ _ _ => rfl) inv.cap (fun i u e => by rw [hmu] at e; cases e) hw2.other hw2.size (hw2.below inv.below (inv.lowAt h8)) ⟨_, T, lo, hi', hw2.at_, ?_, ?_, hmu⟩
        · rw [Nat.add_zero, h5.length]; exact ((hr.take o).append h5).append (hr.drop _)
        · intro i hi; refine hf i ?_
          simp only [List.length_append, List.length_take, List.length_drop, h5.length] at hi; omega
      · subst hb
        have hz : (a.eval y).cells.toList = [] := by have := h5.length; simpa using this
        rw [hrun w (by rw [hz]; rfl)]
        refine ⟨g, _, Gh.le_refl g, ?_, h11⟩
        have e : cells.take o ++ [] ++ cells.drop (o + ([] : List AV).length) = cells := by simp
        rw [e]
        exact inv.upd h8 (Gh.le_refl g) (fun _ _ _ => rfl) inv.cap (fun i u e => by rw [hmu] at e; cases e) (fun _ _ => rfl) rfl inv.below ⟨us, T, lo, hi', hh, hr, hf, hmu⟩
    | arr esz cells zz =>
      obtain ⟨us, vs, T, lo, hi', cap, hh, hr, hf, hk, hln, hmu⟩ := ho
      have key : zz ≤ o ∧ o + cs.length ≤ cells.length ∧ K (.tup []) (st.set m (b, .arr esz (cells.take o ++ cs ++ cells.drop (o + cs.length)) zz)) := by
        dsimp only at h9
        split at h9
        · rename_i v
          obtain ⟨⟨h10, h11⟩, h12⟩ := h9
          refine ⟨h10, by simp; omega, ?_⟩
          have := stSetK_sound h12
          have e : cells.take o ++ [v] ++ cells.drop (o + [v].length) = cells.set o v := by
            rw [List.set_eq_take_append_cons_drop, if_pos h11]; simp
          rw [e]; exact this
        · obtain ⟨⟨h10, h11⟩, h12⟩ := h9
          exact ⟨h10, h11, stSetK_sound h12⟩
      obtain ⟨k1, k2, k3⟩ := key
      have hul := hr.length
      obtain ⟨w', hw1, hw2⟩ := run_storeCells (P := P) (b := b) (o := o) (a.eval y).cells.toList (us ++ vs) T lo hi' w 0 hh h5.ones hf (by rw [h5.length]; simp; omega)
      rw [hrun w' hw1]
      refine ⟨g, _, Gh.le_refl g, ?_, k3⟩
      have hy := h5.length
      have e1 : (us ++ vs).take (o + 0) ++ (a.eval y).cells.toList ++ (us ++ vs).drop (o + 0 + (a.eval y).cells.toList.length) =
          (us.take o ++ (a.eval y).cells.toList ++ us.drop (o + cs.length)) ++ vs := by
        rw [Nat.add_zero, hy, List.take_append_of_le_length (by omega), List.drop_append_of_le_length (by omega)]; simp
      rw [e1] at hw2
      refine inv.upd h8 (Gh.le_refl g) (fun _ _ _ => rfl) inv.cap (fun i u e => ?_) hw2.other hw2.size (hw2.below inv.below (inv.lowAt h8)) ⟨_, vs, T, lo, hi', cap, hw2.at_, ?_, ?_, hk, ?_, hmu⟩
      · have hlt : i < zz := by
          rcases Nat.lt_or_ge i zz with h | h
          · exact h
          · rw [hmu i h] at e; cases e
        have := inv.mem _ _ _ e
        rw [cell_of hh] at this
        rw [cell_of hw2.at_, List.append_assoc, List.append_assoc, List.getElem?_append_left (by simp; omega), List.getElem?_take_of_lt (by omega)]
        rw [List.getElem?_append_left (by omega)] at this
        exact this
      · exact ((hr.take o).append h5).append (hr.drop _)
      · intro i hi; refine hf i ?_
        simp only [List.length_append, List.length_take, List.length_drop] at hi ⊢; omega
      · rw [← hln]; simp only [List.length_append, List.length_take, List.length_drop]; omega
    | map => exact h9.elim
    | siter => exact h9.elim
    | mapS => exact h9.elim
    | miter => exact h9.elim
  | _ => exact h6.elim

theorem ok_nilCheck {dst ty pos after guard} {x : Operand} (h : opW P tb (.nilCheck x) env st K Kp) (r : EnvR n g env a) (inv : Inv W g (st ++ F) w) :
    OpOk P W F g K Kp ((execOp a.eval ⟨dst, .nilCheck x, ty, pos, after, guard⟩).run P w) := by
  obtain ⟨v, h1, h2⟩ := evalK_sound r h
  split at h2
  · have h1 : a.eval x = _ := h1; exact .same (u := a.eval x) (by simp [execOp, h1]) (by rw [h1]; rfl) inv h2
  · have h1' := h1; obtain ⟨b, o, e, _⟩ := h1'; exact .same (u := a.eval x) (by simp [execOp, e]) h1 inv h2
  · have h1' := h1; obtain ⟨u, e, _⟩ := h1'; exact .same (u := a.eval x) (by simp [execOp, e]) h1 inv h2
  · have h1' := h1; obtain ⟨us, ws, e, _⟩ := h1'; exact .same (u := a.eval x) (by simp [execOp, e]) h1 inv h2
  · exact h2.elim

theorem intK_sound {kd : IntKind} {r : Int} {A : Int → Prop} (h : intK kd r A) : A (kd.wrap r) := by
  cases kd <;> (simp only [intK] at h)
  all_goals first
    | exact h
    | (cases h with
       | wrap h => exact h
       | fit h1 h2 h =>
         have e : ∀ x : Int, x = r → A x := fun x e => e ▸ h
         refine e _ ?_
         simp only [IntKind.wrap, IntKind.signed, IntKind.bits]
         first
           | (simp; omega)
           | omega)
theorem ok_unOp {dst ty pos after guard} {op : UnOp} {t : TypeId} {x : Operand} (h : opW P tb (.unOp op t x) env st K Kp) (r : EnvR n g env a) (inv : Inv W g (st ++ F) w) :
    OpOk P W F g K Kp ((execOp a.eval ⟨dst, .unOp op t x, ty, pos, after, guard⟩).run P w) := by
  obtain ⟨v, h1, h2⟩ := evalK_sound r h
  split at h2
  · split at h2
    · rename_i b
      have h1 : a.eval x = .bool b := h1
      exact .same (u := .bool (!b)) (v := .bool (!b)) (by simp [execOp, h1, Op.unary]) rfl inv h2
    · exact h2.elim
  · split at h2
    · rename_i kd m
      have h1 : a.eval x = .int kd m := h1
      exact .same (u := .int kd (kd.wrap (0 - m))) (v := .int kd (kd.wrap (0 - m))) (by simp [execOp, h1, Op.unary, Op.intArith]) rfl inv (intK_sound h2)
    · exact h2.elim
  · exact h2.elim
end
end Go.Av
