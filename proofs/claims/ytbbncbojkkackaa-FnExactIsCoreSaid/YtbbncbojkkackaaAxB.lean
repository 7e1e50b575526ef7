/- The abstract layer, part 2: the abstract state and what each operation does to it. -/
import Derived.Test.YtbbncbojkkackaaAxA
import Derived.ArgAppend
namespace Go.Ax

/-- What is used of a type's row in the program's table. -/
inductive TD where
  | str
  | bool
  | int (k : IntKind)
  | slice (e : TypeId)
  | struct (fs : List (Nat × TypeId))
  | fn
  | ptr
  deriving Inhabited

structure TI where
  size : Nat
  bytes : Nat
  td : TD
  zero : List PV
  deriving Inhabited

abbrev Tab := TypeId → Option TI

def TD.agg : TD → Bool
  | .struct _ => true
  | _ => false

def lk {α : Type} (k : Nat) : List (Nat × α) → Option α
  | [] => none
  | (j, x) :: r => if k = j then some x else lk k r

/-- A key's value is replaced, or laid at the end of the list. -/
def ups {α : Type} (k : Nat) (v : α) : List (Nat × α) → List (Nat × α)
  | [] => [(k, v)]
  | (j, x) :: r => if k = j then (j, v) :: r else (j, x) :: ups k v r

structure St where
  tmps : List AV
  boxes : List (Nat × List AV)
  tips : List (Nat × Option (Nat × Nat) × Nat)
  U : Nat → Prop

def St.put (st : St) (d : Option Tmp) (v : AV) : St :=
  match d with
  | some d => { st with tmps := st.tmps.set d v }
  | none => st

def evl (tmps : List AV) : Operand → AV
  | .tmp t => tmps.getD t .bot
  | .const v => if v.oneCell' = true then .pv (.lit v) else .bot
  | .func f => .fn f []
  | .global _ => .bot

/-- An operand at a known type: the constant nil of a slice's type is the empty slice. -/
def evT (tab : Tab) (e : Operand → AV) (t : TypeId) (x : Operand) : AV :=
  match x with
  | .const (.slice none 0 0) =>
    match tab t with
    | some { td := .slice el, .. } => match tab el with
      | some j => .pv (.own 0 none j.size [])
      | none => e x
    | _ => e x
  | x => e x

def bindK {α : Type} : Option α → (α → Prop) → Prop
  | some v, K => K v
  | none, _ => False

theorem bindK_some {α : Type} (v : α) (K : α → Prop) : bindK (some v) K = K v := rfl
theorem bindK_none {α : Type} (K : α → Prop) : bindK (none : Option α) K = False := rfl
theorem bindK_ite {α : Type} (c : Prop) [Decidable c] (a : α) (K : α → Prop) : bindK (if c then some a else none) K = (c ∧ K a) := by
  by_cases h : c <;> simp [h, bindK]
theorem bindK_map {α β : Type} (o : Option α) (f : α → β) (K : β → Prop) : bindK (o.map f) K = ∃ a, o = some a ∧ K (f a) := by
  cases o <;> simp [bindK]
theorem bindK_iff {α : Type} {o : Option α} {K : α → Prop} : bindK o K ↔ ∃ v, o = some v ∧ K v := by
  cases o <;> simp [bindK]
theorem bindK_mono {α : Type} {o : Option α} {K K' : α → Prop} (h : ∀ v, K v → K' v) (hk : bindK o K) : bindK o K' := by
  cases o with
  | none => exact hk
  | some v => exact h v hk

def allPV : List AV → Option (List PV)
  | [] => some []
  | .pv x :: r => (allPV r).map (x :: ·)
  | _ :: _ => none

def AV.cells : AV → List AV
  | .pv (.agg cs) => cs.map .pv
  | x => [x]

/-- A load, of a type with this row, through this pointer. -/
def loadA (i : TI) (p : AV) (bx : List (Nat × List AV)) : Option AV :=
  match p with
  | .box b off => match lk b bx with
    | some cs => if i.td.agg then
        (if off + i.size ≤ cs.length then (allPV ((cs.drop off).take i.size)).map (fun l => .pv (.agg l)) else none)
      else cs[off]?
    | none => none
  | .ro cs => if i.td.agg then (if i.size ≤ cs.length then some (.pv (.agg (cs.take i.size))) else none) else (cs[0]?).map .pv
  | _ => none

def addA (n : Nat) : AV → Option AV
  | .box b off => some (.box b (off + n))
  | .ro cs => some (.ro (cs.drop n))
  | _ => none

def intBin (op : BinOp) (k : IntKind) (x y : Int) : Option PV :=
  match op with
  | .add => some (.lit (.int k (k.wrap (x + y))))
  | .sub => some (.lit (.int k (k.wrap (x - y))))
  | .mul => some (.lit (.int k (k.wrap (x * y))))
  | .quo => if y ≠ 0 then some (.lit (.int k (k.wrap (x.tdiv y)))) else none
  | .rem => if y ≠ 0 then some (.lit (.int k (x.tmod y))) else none
  | .and => some (.lit (.int k (k.wrap (BitVec.ofInt k.bits x &&& BitVec.ofInt k.bits y).toNat)))
  | .or => some (.lit (.int k (k.wrap (BitVec.ofInt k.bits x ||| BitVec.ofInt k.bits y).toNat)))
  | .xor => some (.lit (.int k (k.wrap (BitVec.ofInt k.bits x ^^^ BitVec.ofInt k.bits y).toNat)))
  | .eql => some (.lit (.bool (x == y)))
  | .neq => some (.lit (.bool (x != y)))
  | .lss => some (.lit (.bool (decide (x < y))))
  | .leq => some (.lit (.bool (decide (x ≤ y))))
  | .gtr => some (.lit (.bool (decide (x > y))))
  | .geq => some (.lit (.bool (decide (x ≥ y))))
  | _ => none

def strBin (op : BinOp) (x y : ByteArray) : Option PV :=
  match op with
  | .add => if x.size + y.size ≤ 9223372036854775807 then some (.lit (.string (x ++ y))) else none
  | .eql => some (.lit (.bool (x.toList == y.toList)))
  | .neq => some (.lit (.bool (!(x.toList == y.toList))))
  | _ => none

def binA (tab : Tab) (t : TypeId) (op : BinOp) (a b : AV) : Option AV :=
  match op, a, b with
  | .shl, .pv (.lit (.int k x)), .pv (.lit (.int _ y)) => if 0 ≤ y then some (.pv (.lit (.int k (k.wrap (x * 2 ^ (min y.toNat k.bits)))))) else none
  | .shr, .pv (.lit (.int k x)), .pv (.lit (.int _ y)) => if 0 ≤ y then some (.pv (.lit (.int k (x.fdiv (2 ^ (min y.toNat k.bits)))))) else none
  | op, .pv (.lit (.int k x)), .pv (.lit (.int k' y)) => if k = k' then (intBin op k x y).map .pv else none
  | op, .pv (.lit (.string x)), .pv (.lit (.string y)) => (strBin op x y).map .pv
  | .eql, .pv (.lit (.bool x)), .pv (.lit (.bool y)) => match tab t with
    | some { td := .bool, .. } => some (.pv (.lit (.bool (x == y))))
    | _ => none
  | .neq, .pv (.lit (.bool x)), .pv (.lit (.bool y)) => match tab t with
    | some { td := .bool, .. } => some (.pv (.lit (.bool (!(x == y)))))
    | _ => none
  | _, _, _ => none

def unA (op : UnOp) (a : AV) : Option AV :=
  match op, a with
  | .not, .pv (.lit (.bool b)) => some (.pv (.lit (.bool (!b))))
  | .neg, .pv (.lit (.int k n)) => some (.pv (.lit (.int k (k.wrap (0 - n)))))
  | _, _ => none

/-- The bytes that a slice of bytes holds. -/
def bytesOf : List PV → Option (List UInt8)
  | [] => some []
  | .lit (.int .u8 n) :: r => (bytesOf r).map (UInt8.ofNat n.toNat :: ·)
  | _ :: _ => none

def PV.elems : PV → Option (Nat × List PV)
  | .sl sz es => some (sz, es)
  | .own _ _ sz es => some (sz, es)
  | _ => none

def convA (tab : Tab) (s d : TypeId) (x : AV) : Option AV :=
  match tab s, tab d, x with
  | some { td := .int _, .. }, some { td := .int k, .. }, .pv (.lit (.int _ n)) => some (.pv (.lit (.int k (k.wrap n))))
  | some { td := .slice e, .. }, some { td := .str, .. }, .pv x =>
    match tab e, x.elems with
    | some { td := .int .u8, .. }, some (1, es) => (bytesOf es).map fun l => .pv (.lit (.string ⟨l.toArray⟩))
    | _, _ => none
  | _, _, _ => none

def idxA (tab : Tab) (t : TypeId) (x i : AV) : Option AV :=
  match tab t, x, i with
  | some { td := .slice el, .. }, .pv x, .pv (.lit (.int _ n)) =>
    match tab el, x.elems with
    | some j, some (sz, es) => if j.size = sz ∧ 0 ≤ n then (es[n.toNat]?).map fun e => .ro e.cells else none
    | _, _ => none
  | some { td := .slice el, .. }, .msl b sz len, .pv (.lit (.int _ n)) =>
    match tab el with
    | some j => if j.size = sz ∧ 0 ≤ n ∧ n < len then some (.box b (n.toNat * sz)) else none
    | none => none
  | _, _, _ => none

def strIdxA (tab : Tab) (t : TypeId) (x i : AV) : Option AV :=
  match tab t, x, i with
  | some { td := .str, .. }, .pv (.lit (.string s)), .pv (.lit (.int _ n)) =>
    if 0 ≤ n then (s.data[n.toNat]?).map fun c => .pv (.lit (.int .u8 c.toNat)) else none
  | _, _, _ => none

def boundA (dflt : Nat) : Option AV → Option Int
  | none => some dflt
  | some (.pv (.lit (.int _ n))) => some n
  | some _ => none

/-- A slice expression: of a string, or of a slice within its length. -/
def sliceA (tab : Tab) (t : TypeId) (x : AV) (lo hi mx : Option AV) : Option AV :=
  match tab t, x, mx with
  | some { td := .str, .. }, .pv (.lit (.string s)), none =>
    match boundA 0 lo, boundA s.size hi with
    | some l, some h => if 0 ≤ l ∧ l ≤ h ∧ h ≤ s.size then some (.pv (.lit (.string (s.extract l.toNat h.toNat)))) else none
    | _, _ => none
  | some { td := .slice el, .. }, .pv x, none =>
    match tab el, x with
    | some j, .sl sz es => match boundA 0 lo, boundA es.length hi with
      | some l, some h => if j.size = sz ∧ 0 < sz ∧ 0 ≤ l ∧ l ≤ h ∧ h ≤ es.length then some (.pv (.sl sz ((es.drop l.toNat).take (h.toNat - l.toNat)))) else none
      | _, _ => none
    | some j, .own s ob sz es => match boundA 0 lo, boundA es.length hi with
      | some l, some h => if j.size = sz ∧ 0 < sz ∧ 0 ≤ l ∧ l ≤ h ∧ h ≤ es.length then
          (if 0 < h.toNat - l.toNat then some (.pv (.own s (ob.map fun p => (p.1, p.2 + l.toNat * sz)) sz ((es.drop l.toNat).take (h.toNat - l.toNat))))
           else some (.pv (.sl sz []))) else none
      | _, _ => none
    | _, _ => none
  | some { td := .slice el, .. }, .pv x, some (.pv (.lit (.int _ 0))) =>
    match tab el, x.elems, boundA 0 lo, boundA 1 hi with
    | some j, some _, some 0, some 0 => some (.pv (.own 0 none j.size []))
    | _, _, _, _ => none
  | _, _, _ => none

def partA (tab : Tab) (t : TypeId) (cs : List PV) (off : Nat) : Option AV :=
  match tab t with
  | some i => if i.td.agg then (if off + i.size ≤ cs.length then some (.pv (.agg ((cs.drop off).take i.size))) else none) else (cs[off]?).map .pv
  | none => none

def fieldA (tab : Tab) (t : TypeId) (x : AV) (f : Nat) : Option AV :=
  match tab t, x with
  | some { td := .struct fs, .. }, .pv (.agg cs) => match fs[f]? with
    | some (off, ft) => partA tab ft cs off
    | none => none
  | _, _ => none

def fieldAddrA (tab : Tab) (t : TypeId) (x : AV) (f : Nat) : Option AV :=
  match tab t with
  | some { td := .struct fs, .. } => match fs[f]? with
    | some (off, _) => addA off x
    | none => none
  | _ => none

/-- Cells laid over a row from a place on. -/
def lay {α : Type} (cs : List α) (off : Nat) (vs : List α) : List α := cs.take off ++ vs ++ cs.drop (off + vs.length)

def placeOf (tab : Tab) (fs : List (Nat × TypeId)) (i : Nat) : Option (Nat × Nat) :=
  match fs[i]? with
  | some (off, ft) => (tab ft).map fun j => (off, j.size)
  | none => none

/-- A part's operand, at its field's type. -/
def evF (tab : Tab) (fs : List (Nat × TypeId)) (e : Operand → AV) (p : Nat × Operand) : Nat × AV :=
  (p.1, match fs[p.1]? with | some (_, ft) => evT tab e ft p.2 | none => e p.2)

def PV.isTup : PV → Bool
  | .tup _ => true
  | _ => false

def fillV (place : Nat → Option (Nat × Nat)) : List PV → List (Nat × AV) → Option (List PV)
  | cs, [] => some cs
  | cs, (i, x) :: r =>
    match place i, x with
    | some (off, size), .pv v => if v.isTup = false ∧ v.cells.length = size ∧ off + size ≤ cs.length then fillV place (lay cs off v.cells) r else none
    | _, _ => none

def buildA (tab : Tab) (t : TypeId) (e : Operand → AV) (parts : List (Nat × Operand)) : Option AV :=
  match tab t with
  | some { td := .struct fs, zero := z, .. } => (fillV (placeOf tab fs) z (parts.map (evF tab fs e))).map fun cs => .pv (.agg cs)
  | _ => none

def lenA (tab : Tab) (t : TypeId) (x : AV) : Option AV :=
  match tab t, x with
  | some { td := .str, .. }, .pv (.lit (.string s)) => some (.pv (.lit (.int .i64 s.size)))
  | some { td := .slice _, .. }, .pv x => x.elems.map fun p => .pv (.lit (.int .i64 p.2.length))
  | some { td := .slice _, .. }, .msl _ _ len => some (.pv (.lit (.int .i64 len)))
  | _, _ => none

/-- What an operation that only computes, or reads, yields. -/
def dval (tab : Tab) (o : Oper) (e : Operand → AV) (bx : List (Nat × List AV)) : Option AV :=
  match o.op with
  | .move x | .assign x => some (evT tab e o.type x)
  | .pick c a b => match e c with
    | .pv (.lit (.bool true)) => some (e a)
    | .pv (.lit (.bool false)) => some (e b)
    | _ => none
  | .load t a => match tab t with
    | some i => loadA i (e a) bx
    | none => none
  | .nilCheck x => match e x with
    | .box b off => some (.box b off)
    | .ro cs => some (.ro cs)
    | _ => none
  | .binOp op t x y _ => binA tab t op (e x) (e y)
  | .unOp op _ x => unA op (e x)
  | .convert s d x => convA tab s d (e x)
  | .fieldAddr t x f => fieldAddrA tab t (e x) f
  | .field t x f => fieldA tab t (e x) f
  | .indexAddr t x i => idxA tab t (e x) (e i)
  | .index t x i => strIdxA tab t (e x) (e i)
  | .slice t x lo hi mx => sliceA tab t (e x) (lo.map e) (hi.map e) (mx.map e)
  | .extract x k => match e x with
    | .pv (.tup vs) => (vs[k]?).map .pv
    | _ => none
  | .makeFunc (.func f) first caps => if first.toList = [] then some (.fn f (caps.toList.map e)) else none
  | .build t parts => buildA tab t e parts.toList
  | .call { callee := .builtin .len, args, argTypes } => match args.toList, argTypes.toList with
    | [x], [t] => lenA tab t (e x)
    | _, _ => none
  | .call { callee := .builtin .max, args, .. } => match args.toList with
    | [x, y] => match e x, e y with
      | .pv (.lit (.int k a)), .pv (.lit (.int k' b)) => if k = k' then some (.pv (.lit (.int k (max a b)))) else none
      | _, _ => none
    | _ => none
  | .call { callee := .builtin .min, args, .. } => match args.toList with
    | [x, y] => match e x, e y with
      | .pv (.lit (.int k a)), .pv (.lit (.int k' b)) => if k = k' then some (.pv (.lit (.int k (min a b)))) else none
      | _, _ => none
    | _ => none
  | _ => none

end Go.Ax
