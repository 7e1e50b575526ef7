/- Typed execution, part 1: typed values, states, and what code does to them. -/
import Derived.Test.YtbbncbojkkackaaAxX
set_option linter.unusedVariables false
namespace Go.Tx
open Go.Ax

inductive TV (D : Nat → Type) : Type where
  | int (k : IntKind) (n : Int)
  | bool (b : Bool)
  | str (s : ByteArray)
  | lit (v : Value)
  | sl (c : Nat) (xs : List (D c))
  | own (s ver c : Nat) (xs : List (D c))
  | agg (cs : List (TV D))
  | tup (vs : List (TV D))

inductive TA (D : Nat → Type) : Type where
  | bot
  | undef
  | v (x : TV D)
  | box (i off : Nat)
  | ro (cs : List (TV D))
  | fn (f : FuncId) (caps : List (TA D))
  | msl (i c : Nat) (n : Int)
  | elt (i c : Nat) (n : Int)

/-- What a temporary holds: a value, or one that is there only if a guard held. -/
inductive TM (D : Nat → Type) : Type where
  | p (a : TA D)
  | may (t : Nat) (w g : Bool) (a : TA D)

inductive BC (D : Nat → Type) : Type where
  | cells (cs : List (TA D))
  | arr (c : Nat) (xs : List (D c))

structure TS (D : Nat → Type) where
  tmps : List (TM D)
  boxes : List (Nat × BC D)
  caps : List (Nat × Nat)
  ctr : Nat

/-- The types of elements and of structs, by number. -/
structure Uni where
  D : Nat → Type
  sz : Nat → Nat
  pv : (c : Nat) → D c → PV
  enc : (c : Nat) → D c → List (TV D)
  dec : (c : Nat) → List (TV D) → Option (D c)
  dflt : (c : Nat) → D c
  st : Nat → Bool

def castL {D : Nat → Type} (c c' : Nat) (xs : List (D c)) : Option (List (D c')) := if h : c = c' then some (h ▸ xs) else none
def castD {D : Nat → Type} (c c' : Nat) (x : D c) : Option (D c') := if h : c = c' then some (h ▸ x) else none

mutual
def TV.pv (U : Uni) : TV U.D → PV
  | .int k n => .lit (.int k n)
  | .bool b => .lit (.bool b)
  | .str s => .lit (.string s)
  | .lit v => .lit v
  | .sl c xs => .sl (U.sz c) (xs.map (U.pv c))
  | .own _ _ c xs => .sl (U.sz c) (xs.map (U.pv c))
  | .agg cs => .agg (TV.pvL U cs)
  | .tup vs => .tup (TV.pvL U vs)
def TV.pvL (U : Uni) : List (TV U.D) → List PV
  | [] => []
  | x :: r => TV.pv U x :: TV.pvL U r
end

/-- What a type's row says. -/
inductive TK where
  | str
  | bool
  | int (k : IntKind)
  | slice (c bytes : Nat)
  | struct (fs : List (Nat × TypeId))
  | fn
  | ptr

structure TT (D : Nat → Type) where
  size : Nat
  k : TK
  zero : List (TV D)

abbrev TTab (D : Nat → Type) := TypeId → Option (TT D)

def TK.agg : TK → Bool
  | .struct _ => true
  | _ => false

section
variable {D : Nat → Type} {R : Type}

def nthM : List (TM D) → Nat → TA D
  | [], _ => .bot
  | x :: _, 0 => match x with | .p a => a | .may .. => .bot
  | _ :: r, n + 1 => nthM r n

/-- The value at a place, where these guards are known to hold. -/
def nthG (gs : List (Nat × Bool)) : List (TM D) → Nat → TA D
  | [], _ => .bot
  | x :: _, 0 => match x with
    | .p a => a
    | .may t w _ a => match gs.any (fun p => Nat.beq p.1 t && (p.2 == w)) with
      | true => a
      | false => .bot
  | _ :: r, n + 1 => nthG gs r n

def tconst : Value → TA D
  | .int k n => .v (.int k n)
  | .bool b => .v (.bool b)
  | .string s => .v (.str s)
  | v => match v.oneCell' with
    | true => .v (.lit v)
    | false => .bot

def tev (gs : List (Nat × Bool)) (tmps : List (TM D)) : Operand → TA D
  | .tmp t => nthG gs tmps t
  | .const v => tconst v
  | .func f => .fn f []
  | .global _ => .bot

def tevT (tt : TTab D) (e : Operand → TA D) (t : TypeId) (x : Operand) : TA D :=
  match x with
  | .const (.slice none 0 0) =>
    match tt t with
    | some ⟨_, .slice c _, _⟩ => .v (.own 0 0 c [])
    | _ => .bot
  | x => e x

/-- What comes of an operation that computes or reads: a value, or one that a partial function yields. -/
inductive Pr (D : Nat → Type) where
  | pure (a : TA D)
  | int (o : Option Int) (k : Int → TA D)
  | str (o : Option ByteArray) (k : ByteArray → TA D)
  | elt (c : Nat) (o : Option (D c)) (k : D c → TA D)
  | els (c : Nat) (o : Option (List (D c))) (k : List (D c) → TA D)

/-- The i-th element. -/
def nthT {α : Type} (xs : List α) (i : Int) : Option α := if 0 ≤ i then xs[i.toNat]? else none
/-- The elements from one place up to another. -/
def subT {α : Type} (xs : List α) (l h : Int) : Option (List α) := if 0 ≤ l ∧ l ≤ h ∧ h ≤ xs.length then some ((xs.drop l.toNat).take (h.toNat - l.toNat)) else none
/-- The i-th byte. -/
def byteT (s : ByteArray) (i : Int) : Option Int := if 0 ≤ i then (s.data[i.toNat]?).map (fun c => (c.toNat : Int)) else none
/-- A part of a string. -/
def ssubT (s : ByteArray) (l h : Int) : Option ByteArray := if 0 ≤ l ∧ l ≤ h ∧ h ≤ s.size then some (s.extract l.toNat h.toNat) else none
/-- Two strings, one behind the other. -/
def catT (x y : ByteArray) : Option ByteArray := if x.size + y.size ≤ 9223372036854775807 then some (x ++ y) else none
def quoT (k : IntKind) (x y : Int) : Option Int := if y ≠ 0 then some (k.wrap (x.tdiv y)) else none
def remT (x y : Int) : Option Int := if y ≠ 0 then some (x.tmod y) else none
def shlT (k : IntKind) (x y : Int) : Option Int := if 0 ≤ y then some (k.wrap (x * 2 ^ (min y.toNat k.bits))) else none
def shrT (k : IntKind) (x y : Int) : Option Int := if 0 ≤ y then some (x.fdiv (2 ^ (min y.toNat k.bits))) else none
/-- May so many elements of so many bytes be added? -/
def fitsT (n m b : Nat) : Bool := decide ((n + m) * b ≤ 140737488355328 ∧ n + m ≤ 4611686018427387904)
def makeT (n : Int) (b : Nat) : Bool := decide (0 ≤ n ∧ n * b ≤ 140737488355328 ∧ n ≤ 4611686018427387904)
def inT (n : Int) (l : Nat) : Bool := decide (0 ≤ n ∧ n < l)
def seqT (x y : ByteArray) : Bool := x.toList == y.toList
/-- Where a guard does not hold, anything will do. -/
def gd {α : Type} (g : Bool) (o : Option α) (d : α) : Option α := cond g o (some d)

def tintBin (op : BinOp) (k : IntKind) (x y : Int) : Option (Pr D) :=
  match op with
  | .add => some (.pure (.v (.int k (k.wrap (x + y)))))
  | .sub => some (.pure (.v (.int k (k.wrap (x - y)))))
  | .mul => some (.pure (.v (.int k (k.wrap (x * y)))))
  | .quo => some (.int (quoT k x y) fun z => .v (.int k z))
  | .rem => some (.int (remT x y) fun z => .v (.int k z))
  | .and => some (.pure (.v (.int k (k.wrap (BitVec.ofInt k.bits x &&& BitVec.ofInt k.bits y).toNat))))
  | .or => some (.pure (.v (.int k (k.wrap (BitVec.ofInt k.bits x ||| BitVec.ofInt k.bits y).toNat))))
  | .xor => some (.pure (.v (.int k (k.wrap (BitVec.ofInt k.bits x ^^^ BitVec.ofInt k.bits y).toNat))))
  | .eql => some (.pure (.v (.bool (x == y))))
  | .neq => some (.pure (.v (.bool (x != y))))
  | .lss => some (.pure (.v (.bool (decide (x < y)))))
  | .leq => some (.pure (.v (.bool (decide (x ≤ y)))))
  | .gtr => some (.pure (.v (.bool (decide (x > y)))))
  | .geq => some (.pure (.v (.bool (decide (x ≥ y)))))
  | _ => none

def tstrBin (op : BinOp) (x y : ByteArray) : Option (Pr D) :=
  match op with
  | .add => some (.str (catT x y) fun z => .v (.str z))
  | .eql => some (.pure (.v (.bool (seqT x y))))
  | .neq => some (.pure (.v (.bool (!(seqT x y)))))
  | _ => none

def tbin (tt : TTab D) (t : TypeId) (op : BinOp) (a b : TA D) : Option (Pr D) :=
  match op, a, b with
  | .shl, .v (.int k x), .v (.int _ y) => some (.int (shlT k x y) fun z => .v (.int k z))
  | .shr, .v (.int k x), .v (.int _ y) => some (.int (shrT k x y) fun z => .v (.int k z))
  | op, .v (.int k x), .v (.int k' y) => if k = k' then tintBin op k x y else none
  | op, .v (.str x), .v (.str y) => tstrBin op x y
  | .eql, .v (.bool x), .v (.bool y) => match tt t with
    | some ⟨_, .bool, _⟩ => some (.pure (.v (.bool (x == y))))
    | _ => none
  | .neq, .v (.bool x), .v (.bool y) => match tt t with
    | some ⟨_, .bool, _⟩ => some (.pure (.v (.bool (!(x == y)))))
    | _ => none
  | _, _, _ => none

def tun (op : UnOp) (a : TA D) : Option (Pr D) :=
  match op, a with
  | .not, .v (.bool b) => some (.pure (.v (.bool (!b))))
  | .neg, .v (.int k n) => some (.pure (.v (.int k (k.wrap (0 - n)))))
  | _, _ => none

def tallv : List (TA D) → Option (List (TV D))
  | [] => some []
  | .v x :: r => match tallv r with
    | some l => some (x :: l)
    | none => none
  | _ :: _ => none

def lkT {α : Type} (k : Nat) : List (Nat × α) → Option α
  | [] => none
  | (j, x) :: r => match Nat.beq k j with
    | true => some x
    | false => lkT k r

def atL {α : Type} : List α → Nat → Option α
  | [], _ => none
  | x :: _, 0 => some x
  | _ :: r, n + 1 => atL r n

def tload (i : TT D) (p : TA D) (bx : List (Nat × BC D)) : Option (TA D) :=
  match p with
  | .box b off => match lkT b bx with
    | some (.cells cs) => match i.k.agg with
      | true => match Nat.ble (off + i.size) cs.length with
        | true => match tallv ((cs.drop off).take i.size) with
          | some l => some (.v (.agg l))
          | none => none
        | false => none
      | false => atL cs off
    | _ => none
  | .ro cs => match i.k.agg with
    | true => match Nat.ble i.size cs.length with
      | true => some (.v (.agg (cs.take i.size)))
      | false => none
    | false => match atL cs 0 with
      | some x => some (.v x)
      | none => none
  | _ => none

def tadd (n : Nat) : TA D → Option (TA D)
  | .box b off => some (.box b (off + n))
  | .ro cs => some (.ro (cs.drop n))
  | _ => none

def tpart (tt : TTab D) (t : TypeId) (cs : List (TV D)) (off : Nat) : Option (TA D) :=
  match tt t with
  | some i => match i.k.agg with
    | true => match Nat.ble (off + i.size) cs.length with
      | true => some (.v (.agg ((cs.drop off).take i.size)))
      | false => none
    | false => match atL cs off with
      | some x => some (.v x)
      | none => none
  | none => none

def tfield (tt : TTab D) (t : TypeId) (x : TA D) (f : Nat) : Option (TA D) :=
  match tt t, x with
  | some ⟨_, .struct fs, _⟩, .v (.agg cs) => match atL fs f with
    | some (off, ft) => tpart tt ft cs off
    | none => none
  | _, _ => none

def tfieldAddr (tt : TTab D) (t : TypeId) (x : TA D) (f : Nat) : Option (TA D) :=
  match tt t with
  | some ⟨_, .struct fs, _⟩ => match atL fs f with
    | some (off, _) => tadd off x
    | none => none
  | _ => none

/-- A slice's elements. -/
def TV.els : TV D → Option ((c : Nat) × List (D c))
  | .sl c xs => some ⟨c, xs⟩
  | .own _ _ c xs => some ⟨c, xs⟩
  | _ => none

def TV.cells : TV D → List (TV D)
  | .agg cs => cs
  | x => [x]

def shed : TV D → TV D
  | .own _ _ c xs => .sl c xs
  | x => x

def tfill (place : Nat → Option (Nat × Nat)) : List (TV D) → List (Nat × TA D) → Option (List (TV D))
  | cs, [] => some cs
  | cs, (i, x) :: r =>
    match place i, x with
    | some (off, size), .v (.agg l) => match Nat.beq l.length size && Nat.ble (off + size) cs.length with
      | true => tfill place (lay cs off l) r
      | false => none
    | some (_, _), .v (.tup _) => none
    | some (off, size), .v v => match Nat.beq 1 size && Nat.ble (off + size) cs.length with
      | true => tfill place (lay cs off [v]) r
      | false => none
    | _, _ => none

def tplace (tt : TTab D) (fs : List (Nat × TypeId)) (i : Nat) : Option (Nat × Nat) :=
  match atL fs i with
  | some (off, ft) => match tt ft with
    | some j => some (off, j.size)
    | none => none
  | none => none

def tevF (tt : TTab D) (fs : List (Nat × TypeId)) (e : Operand → TA D) (p : Nat × Operand) : Nat × TA D :=
  (p.1, match atL fs p.1 with | some (_, ft) => tevT tt e ft p.2 | none => e p.2)

def tbuild (tt : TTab D) (t : TypeId) (e : Operand → TA D) (parts : List (Nat × Operand)) : Option (TA D) :=
  match tt t with
  | some ⟨_, .struct fs, z⟩ => match tfill (tplace tt fs) z (parts.map (tevF tt fs e)) with
    | some cs => some (.v (.agg cs))
    | none => none
  | _ => none

def tlen (tt : TTab D) (t : TypeId) (x : TA D) : Option (TA D) :=
  match tt t, x with
  | some ⟨_, .str, _⟩, .v (.str s) => some (.v (.int .i64 s.size))
  | some ⟨_, .slice _ _, _⟩, .v (.sl _ xs) => some (.v (.int .i64 xs.length))
  | some ⟨_, .slice _ _, _⟩, .v (.own _ _ _ xs) => some (.v (.int .i64 xs.length))
  | _, _ => none

def tbound (dflt : Int) : Option (TA D) → Option Int
  | none => some dflt
  | some (.v (.int _ n)) => some n
  | some _ => none

def tslice (tt : TTab D) (t : TypeId) (x : TA D) (lo hi mx : Option (TA D)) : Option (Pr D) :=
  match tt t, x, mx with
  | some ⟨_, .str, _⟩, .v (.str s), none =>
    match tbound 0 lo, tbound s.size hi with
    | some l, some h => some (.str (ssubT s l h) fun z => .v (.str z))
    | _, _ => none
  | some ⟨_, .slice c' _, _⟩, .v x, none =>
    match x.els with
    | some ⟨c, xs⟩ => match Nat.beq c c', tbound 0 lo, tbound xs.length hi with
      | true, some l, some h => some (.els c (subT xs l h) fun z => .v (.sl c z))
      | _, _, _ => none
    | none => none
  | some ⟨_, .slice c _, _⟩, .v x, some (.v (.int _ 0)) =>
    match x.els, tbound 0 lo, tbound 1 hi with
    | some _, some 0, some 0 => some (.pure (.v (.own 0 0 c [])))
    | _, _, _ => none
  | _, _, _ => none

def tidx (U : Uni) (tt : TTab U.D) (t : TypeId) (x i : TA U.D) : Option (Pr U.D) :=
  match tt t, x, i with
  | some ⟨_, .slice c' _, _⟩, .v x, .v (.int _ n) =>
    match x.els with
    | some ⟨c, xs⟩ => match Nat.beq c c' with
      | true => some (.elt c (nthT xs n) fun x => .ro (U.enc c x))
      | false => none
    | none => none
  | some ⟨_, .slice c' _, _⟩, .msl b c len, .v (.int _ n) =>
    match Nat.beq c c' with
    | true => some (.int (if inT n len.toNat then some n else none) fun n => .elt b c n)
    | false => none
  | _, _, _ => none

def pickB (a b : Operand) (c x y : Bool) : Bool :=
  match a, b with
  | _, .const (.bool false) => c && x
  | .const (.bool true), _ => c || y
  | _, _ => cond c x y
def tpickV (a b : Operand) (c : Bool) : TA D → TA D → Option (TA D)
  | .v (.bool x), .v (.bool y) => some (.v (.bool (pickB a b c x y)))
  | .v (.int k x), .v (.int k' y) => if k = k' then some (.v (.int k (cond c x y))) else none
  | _, _ => none

def isTmp : Operand → Option Nat
  | .tmp t => some t
  | _ => none

/-- What an operation that only computes, or reads, yields; `ge` reads an operand where one more guard is known to hold. -/
def tdv (U : Uni) (tt : TTab U.D) (o : Oper) (ge : List (Nat × Bool) → Operand → TA U.D) (bx : List (Nat × BC U.D)) : Option (Pr U.D) :=
  let e := ge []
  match o.op with
  | .move x | .assign x => some (.pure (tevT tt e o.type x))
  | .pick c a b => match e c with
    | .v (.bool cb) => match isTmp c with
      | some t => (tpickV a b cb (ge [(t, true)] a) (ge [(t, false)] b)).map .pure
      | none => none
    | _ => none
  | .load t a => match tt t with
    | some i => (tload i (e a) bx).map .pure
    | none => none
  | .nilCheck x => match e x with
    | .box b off => some (.pure (.box b off))
    | .ro cs => some (.pure (.ro cs))
    | _ => none
  | .binOp op t x y _ => tbin tt t op (e x) (e y)
  | .unOp op _ x => tun op (e x)
  | .convert s d x => match tt s, tt d, e x with
    | some ⟨_, .int _, _⟩, some ⟨_, .int k, _⟩, .v (.int _ n) => some (.pure (.v (.int k (k.wrap n))))
    | _, _, _ => none
  | .fieldAddr t x f => (tfieldAddr tt t (e x) f).map .pure
  | .field t x f => (tfield tt t (e x) f).map .pure
  | .indexAddr t x i => tidx U tt t (e x) (e i)
  | .index t x i => match tt t, e x, e i with
    | some ⟨_, .str, _⟩, .v (.str s), .v (.int _ n) => some (.int (byteT s n) fun c => .v (.int .u8 c))
    | _, _, _ => none
  | .slice t x lo hi mx => tslice tt t (e x) (lo.map e) (hi.map e) (mx.map e)
  | .extract x k => match e x with
    | .v (.tup vs) => match atL vs k with
      | some v => some (.pure (.v v))
      | none => none
    | _ => none
  | .makeFunc (.func f) first caps => match first.toList with
    | [] => some (.pure (.fn f (caps.toList.map e)))
    | _ => none
  | .build t parts => (tbuild tt t e parts.toList).map .pure
  | .call { callee := .builtin .len, args, argTypes } => match args.toList, argTypes.toList with
    | [x], [t] => (tlen tt t (e x)).map .pure
    | _, _ => none
  | .call { callee := .builtin .max, args, .. } => match args.toList with
    | [x, y] => match e x, e y with
      | .v (.int k a), .v (.int k' b) => if k = k' then some (.pure (.v (.int k (max a b)))) else none
      | _, _ => none
    | _ => none
  | .call { callee := .builtin .min, args, .. } => match args.toList with
    | [x, y] => match e x, e y with
      | .v (.int k a), .v (.int k' b) => if k = k' then some (.pure (.v (.int k (min a b)))) else none
      | _, _ => none
    | _ => none
  | _ => none

/-- The kinds of what is passed, kept, returned. -/
inductive K0 where
  | int (k : IntKind)
  | bool
  | str
  | sl (c : Nat)
  | own (s c : Nat)
  | obj (c : Nat)
  | box (i off : Nat)
  | msl (i c : Nat)
inductive Kd where
  | s (k : K0)
  | fn (f : FuncId) (caps : List K0)
inductive BK where
  | cells (ks : List K0)
  | obj (c : Nat)
  | arr (c : Nat)
  | bot (n : Nat)

@[reducible] def den0 (U : Uni) : K0 → Type
  | .int _ => Int
  | .bool => Bool
  | .str => ByteArray
  | .sl c => List (U.D c)
  | .own _ c => List (U.D c)
  | .obj c => U.D c
  | .box _ _ => Unit
  | .msl _ _ => Int
@[reducible] def dens0 (U : Uni) : List K0 → Type
  | [] => Unit
  | k :: r => den0 U k × dens0 U r
@[reducible] def den (U : Uni) : Kd → Type
  | .s k => den0 U k
  | .fn _ caps => dens0 U caps
@[reducible] def dens (U : Uni) : List Kd → Type
  | [] => Unit
  | k :: r => den U k × dens U r
@[reducible] def denB (U : Uni) : BK → Type
  | .cells ks => dens0 U ks
  | .obj c => U.D c
  | .arr c => List (U.D c)
  | .bot _ => Unit
@[reducible] def densB (U : Uni) : List BK → Type
  | [] => Unit
  | k :: r => denB U k × densB U r

def dec0 (U : Uni) : (k : K0) → TA U.D → Option (den0 U k)
  | .int k, .v (.int k' n) => if k = k' then some n else none
  | .bool, .v (.bool b) => some b
  | .str, .v (.str s) => some s
  | .sl c, .v (.sl c' xs) => castL c' c xs
  | .sl c, .v (.own _ _ c' xs) => castL c' c xs
  | .own _ c, .v (.own _ _ c' xs) => castL c' c xs
  | .obj c, .v (.agg cs) => U.dec c (cs.map shed)
  | .box i off, .box i' off' => if i = i' ∧ off = off' then some () else none
  | .msl i c, .msl i' c' n => if i = i' ∧ c = c' then some n else none
  | _, _ => none
def decs0 (U : Uni) : (ks : List K0) → List (TA U.D) → Option (dens0 U ks)
  | [], [] => some ()
  | k :: ks, a :: as_ => match dec0 U k a, decs0 U ks as_ with
    | some x, some r => some (x, r)
    | _, _ => none
  | _, _ => none
def decK (U : Uni) : (k : Kd) → TA U.D → Option (den U k)
  | .s k, a => dec0 U k a
  | .fn f caps, .fn f' as_ => if f = f' then decs0 U caps as_ else none
  | _, _ => none
def decs (U : Uni) : (ks : List Kd) → List (TA U.D) → Option (dens U ks)
  | [], [] => some ()
  | k :: ks, a :: as_ => match decK U k a, decs U ks as_ with
    | some x, some r => some (x, r)
    | _, _ => none
  | _, _ => none
def decB (U : Uni) : (k : BK) → BC U.D → Option (denB U k)
  | .cells ks, .cells cs => decs0 U ks cs
  | .obj c, .cells cs => match tallv cs with
    | some l => U.dec c (l.map shed)
    | none => none
  | .arr c, .arr c' xs => castL c' c xs
  | .bot n, .cells cs => match Nat.beq cs.length n with
    | true => some ()
    | false => none
  | _, _ => none

def enc0 (U : Uni) : (k : K0) → den0 U k → TA U.D
  | .int k, n => .v (.int k n)
  | .bool, b => .v (.bool b)
  | .str, s => .v (.str s)
  | .sl c, xs => .v (.sl c xs)
  | .own s c, xs => .v (.own s 0 c xs)
  | .obj c, x => .v (.agg (U.enc c x))
  | .box i off, _ => .box i off
  | .msl i c, n => .msl i c n
def encs0 (U : Uni) : (ks : List K0) → dens0 U ks → List (TA U.D)
  | [], _ => []
  | k :: ks, (x, r) => enc0 U k x :: encs0 U ks r
def encK (U : Uni) : (k : Kd) → den U k → TA U.D
  | .s k, x => enc0 U k x
  | .fn f caps, x => .fn f (encs0 U caps x)
def encs (U : Uni) : (ks : List Kd) → dens U ks → List (TA U.D)
  | [], _ => []
  | k :: ks, (x, r) => encK U k x :: encs U ks r
def encB (U : Uni) : (k : BK) → denB U k → BC U.D
  | .cells ks, x => .cells (encs0 U ks x)
  | .obj c, x => .cells ((U.enc c x).map .v)
  | .arr c, xs => .arr c xs
  | .bot n, _ => .cells (List.replicate n .bot)

def dflt0 (U : Uni) : (k : K0) → den0 U k
  | .int _ => 0
  | .bool => false
  | .str => ⟨#[]⟩
  | .sl _ => []
  | .own _ _ => []
  | .obj c => U.dflt c
  | .box _ _ => ()
  | .msl _ _ => 0
def dflts0 (U : Uni) : (ks : List K0) → dens0 U ks
  | [] => ()
  | k :: r => (dflt0 U k, dflts0 U r)

/-- What a function returns: one value, or several. -/
@[reducible] def denR (U : Uni) : List K0 → Type
  | [k] => den0 U k
  | ks => dens0 U ks
def vOf : TA D → TV D
  | .v x => x
  | _ => .bool false
def encR (U : Uni) : (ks : List K0) → denR U ks → TV U.D
  | [k], x => vOf (enc0 U k x)
  | [], _ => .tup []
  | k :: l :: ks, x => .tup ((encs0 U (k :: l :: ks) x).map vOf)
def dfltR (U : Uni) : (ks : List K0) → denR U ks
  | [k] => dflt0 U k
  | [] => ()
  | k :: l :: ks => dflts0 U (k :: l :: ks)

/-- A function that can be called without boxes. -/
structure EntP (U : Uni) where
  f : FuncId
  ps : List Kd
  rs : List K0
  F : dens U ps → Option (denR U rs)
/-- A function that can be called with boxes. -/
structure EntX (U : Uni) where
  f : FuncId
  ps : List Kd
  xs : List BK
  rs : List K0
  F : dens U ps → densB U xs → Option (denR U rs × densB U xs)

/-- The place of a loop: what is kept there. -/
structure LSpec where
  ts : List (Nat × Kd)
  bs : List (Nat × BK)

/-- What code is executed with. -/
structure Env (U : Uni) (R : Type) where
  tt : TTab U.D
  ep : List (EntP U)
  ex : List (EntX U)
  ord : List (Nat × List Nat)
  lp : Nat → TS U.D → Option R

end

section
variable {D : Nat → Type} {α : Type}

def killM (d : Nat) : TM D → TM D
  | .p a => .p a
  | .may t w g a => match Nat.beq t d with
    | true => .p .bot
    | false => .may t w g a

/-- A temporary is set; what hung on its old value is forgotten. The list is laid out before it goes on. -/
def putL (v : TM D) (d : Nat) : Option Nat → List (TM D) → (List (TM D) → α) → α
  | _, [], k => k []
  | some 0, _ :: r, k => putL v d none r fun l => k (v :: l)
  | some (n + 1), x :: r, k => match x with
    | .p a => putL v d (some n) r fun l => k (.p a :: l)
    | .may t w g a => match Nat.beq t d with
      | true => putL v d (some n) r fun l => k (.p .bot :: l)
      | false => putL v d (some n) r fun l => k (.may t w g a :: l)
  | none, x :: r, k => match x with
    | .p a => putL v d none r fun l => k (.p a :: l)
    | .may t w g a => match Nat.beq t d with
      | true => putL v d none r fun l => k (.p .bot :: l)
      | false => putL v d none r fun l => k (.may t w g a :: l)

def whV (x : TV D) (k : TV D → α) : α :=
  match x with
  | .int kk n => k (.int kk n)
  | .bool b => k (.bool b)
  | .str s => k (.str s)
  | .lit v => k (.lit v)
  | .sl c xs => k (.sl c xs)
  | .own s w c xs => k (.own s w c xs)
  | .agg cs => k (.agg cs)
  | .tup vs => k (.tup vs)

def whL : List (TV D) → (List (TV D) → α) → α
  | [], k => k []
  | x :: r, k => whV x fun y => whL r fun l => k (y :: l)

/-- A value is laid out before it goes on. -/
def whA (a : TA D) (k : TA D → α) : α :=
  match a with
  | .bot => k .bot
  | .undef => k .undef
  | .v x => whV x fun y => match y with
    | .agg cs => whL cs fun cs => k (.v (.agg cs))
    | .tup cs => whL cs fun cs => k (.v (.tup cs))
    | y => k (.v y)
  | .box i off => k (.box i off)
  | .ro cs => whL cs fun cs => k (.ro cs)
  | .fn f caps => k (.fn f caps)
  | .msl i c n => k (.msl i c n)
  | .elt i c n => k (.elt i c n)

def whAL : List (TA D) → (List (TA D) → α) → α
  | [], k => k []
  | x :: r, k => whA x fun y => whAL r fun l => k (y :: l)

def upsT {β : Type} (i : Nat) (v : β) : List (Nat × β) → (List (Nat × β) → α) → α
  | [], k => k [(i, v)]
  | (j, x) :: r, k => match Nat.beq i j with
    | true => k ((j, v) :: r)
    | false => upsT i v r fun l => k ((j, x) :: l)

def delT (i : Nat) : List (Nat × Nat) → List (Nat × Nat)
  | [] => []
  | (j, x) :: r => match Nat.beq i j with
    | true => delT i r
    | false => (j, x) :: delT i r

def tput (s : TS D) (d : Option Tmp) (v : TM D) (k : TS D → α) : α :=
  match d with
  | some d => putL v d (some d) s.tmps fun l => k ⟨l, s.boxes, s.caps, s.ctr⟩
  | none => k s

def rawM : List (TM D) → Nat → TM D
  | [], _ => .p .bot
  | x :: _, 0 => x
  | _ :: r, n + 1 => rawM r n

/-- Is the mark of a slice that was made still good? -/
def tokOK (s ver : Nat) (caps : List (Nat × Nat)) : Bool :=
  Nat.beq s 0 || (match lkT s caps with | some v => Nat.beq v ver | none => false)

def isBoxA : TA D → Bool
  | .box .. => true
  | .msl .. => true
  | .elt .. => true
  | .bot => false
  | _ => false

mutual
def idsA : TA D → List Nat
  | .box i _ => [i]
  | .msl i _ _ => [i]
  | .elt i _ _ => [i]
  | .fn _ caps => idsAL caps
  | _ => []
def idsAL : List (TA D) → List Nat
  | [] => []
  | x :: r => idsA x ++ idsAL r
end

mutual
def renA (ids : List Nat) : TA D → TA D
  | .box i off => .box (1000 + posIn i ids) off
  | .fn f caps => .fn f (renAL ids caps)
  | .msl .. => .bot
  | .elt .. => .bot
  | x => x
def renAL (ids : List Nat) : List (TA D) → List (TA D)
  | [] => []
  | x :: r => renA ids x :: renAL ids r
end
end

section
variable (U : Uni) {R : Type}

/-- What a call yields. -/
def tcallP (g : FuncId) (as_ : List (TA U.D)) : List (EntP U) → Option ((rs : List K0) × Option (denR U rs))
  | [] => none
  | e :: r => match Nat.beq e.f g with
    | true => match decs U e.ps as_ with
      | some a => some ⟨e.rs, e.F a⟩
      | none => tcallP g as_ r
    | false => tcallP g as_ r

def prK : Pr U.D → (TA U.D → Option R) → Option R
  | .pure a, K => K a
  | .int o k, K => o.bind fun z => K (k z)
  | .str o k, K => o.bind fun z => K (k z)
  | .elt _ o k, K => o.bind fun z => K (k z)
  | .els _ o k, K => o.bind fun z => K (k z)

def prG (g : Bool) : Pr U.D → (TA U.D → Option R) → Option R
  | .pure a, K => K a
  | .int o k, K => (gd g o 0).bind fun z => K (k z)
  | .str o k, K => (gd g o ⟨#[]⟩).bind fun z => K (k z)
  | .elt c o k, K => (gd g o (U.dflt c)).bind fun z => K (k z)
  | .els _ o k, K => (gd g o []).bind fun z => K (k z)

def targs (tt : TTab U.D) (e : Operand → TA U.D) (args : Array Operand) (argTypes : Array TypeId) : List (TA U.D) :=
  (args.toList.zip argTypes.toList).map fun p => tevT tt e p.2 p.1

def sizesEq (a : Array Operand) (b : Array TypeId) : Bool := Nat.beq a.toList.length b.toList.length

/-- A call, perhaps guarded. -/
def tcall (E : Env U R) (g : Option Bool) (e : Operand → TA U.D) (f : Operand) (args : Array Operand) (argTypes : Array TypeId) (K : TA U.D → Option R) : Option R :=
  match sizesEq args argTypes, e f with
  | true, .fn h caps => match idsAL (targs U E.tt e args argTypes ++ caps), tcallP U h (targs U E.tt e args argTypes ++ caps) E.ep with
    | [], some ⟨rs, o⟩ => match g with
      | none => o.bind fun r => K (.v (encR U rs r))
      | some g => (gd g o (dfltR U rs)).bind fun r => K (.v (encR U rs r))
    | _, _ => none
  | _, _ => none

def toCells : TA U.D → Option (List (TA U.D))
  | .v (.agg cs) => some (cs.map .v)
  | .v (.tup _) => none
  | .bot => none
  | .undef => none
  | .elt .. => none
  | x => some [x]

/-- Cells of values as elements. -/
def tdec (c : Nat) : TA U.D → Option (U.D c)
  | .v (.tup _) => none
  | .v (.agg cs) => match U.st c with
    | true => U.dec c (cs.map shed)
    | false => none
  | .v x => match U.st c with
    | true => none
    | false => U.dec c [shed x]
  | _ => none

def tdecs (c : Nat) : List (TA U.D) → Option (List (U.D c))
  | [] => some []
  | x :: r => match tdec U c x, tdecs c r with
    | some y, some l => some (y :: l)
    | _, _ => none

def srcT (c : Nat) : TA U.D → Option (List (U.D c))
  | .v (.sl c' ys) => castL c' c ys
  | .v (.own _ _ c' ys) => castL c' c ys
  | _ => none

/-- Operations that make memory that is not a box. -/
def tmake (E : Env U R) (o : Oper) (s : TS U.D) (K : TS U.D → Option R) : Option R :=
  let e := tev [] s.tmps
  match o.op, o.dst with
  | .call { callee := .builtin .append, args, argTypes }, some d => match args.toList, argTypes.toList with
    | [a, x], [t, tx] => match E.tt t, E.tt tx, tevT E.tt e t a with
      | some ⟨_, .slice c' b, _⟩, some ⟨_, .slice _ _, _⟩, .v (.own st ver c xs) => match Nat.beq c c' && tokOK st ver s.caps && Nat.ble 1 d, srcT U c (tevT E.tt e tx x) with
        | true, some ys => cond (fitsT xs.length ys.length b)
            (tput ⟨s.tmps, s.boxes, (d, s.ctr) :: delT d (delT st s.caps), s.ctr + 1⟩ (some d) (.p (.v (.own d s.ctr c (xs ++ ys)))) K) none
        | _, _ => none
      | _, _, _ => none
    | _, _ => none
  | .buildSlice t n parts, some d => match E.tt t with
    | some ⟨_, .slice c _, _⟩ => match (parts.toList.map (·.1) == List.range n) && Nat.ble (n * U.sz c) 16777216 && Nat.ble 1 d && parts.toList.all (fun p => !(isNilC p.2)), tdecs U c (parts.toList.map fun p => e p.2) with
      | true, some xs => tput ⟨s.tmps, s.boxes, (d, s.ctr) :: delT d s.caps, s.ctr + 1⟩ (some d) (.p (.v (.own d s.ctr c xs))) K
      | _, _ => none
    | _ => none
  | _, _ => none

/-- Operations that turn boxes. -/
def tbox (E : Env U R) (o : Oper) (s : TS U.D) (K : TS U.D → Option R) : Option R :=
  let e := tev [] s.tmps
  match o.op, o.dst with
  | .alloc t, some d => match E.tt t, lkT d s.boxes with
    | some i, none => tput ⟨s.tmps, (d, .cells (i.zero.map .v)) :: s.boxes, s.caps, s.ctr⟩ (some d) (.p (.box d 0)) K
    | _, _ => none
  | .box t x, some d => match toCells U (tevT E.tt e t x), lkT d s.boxes with
    | some cs, none => whAL cs fun cs => tput ⟨s.tmps, (d, .cells cs) :: s.boxes, s.caps, s.ctr⟩ (some d) (.p (.box d 0)) K
    | _, _ => none
  | .store t a x, d => match E.tt t, e a with
    | some i, .box b off => match toCells U (tevT E.tt e t x), lkT b s.boxes with
      | some vs, some (.cells cs) => match Nat.beq vs.length i.size && Nat.ble (off + vs.length) cs.length with
        | true => whAL (lay cs off vs) fun cs => upsT b (.cells cs) s.boxes fun bx => tput ⟨s.tmps, bx, s.caps, s.ctr⟩ d (.p .undef) K
        | false => none
      | _, _ => none
    | some i, .elt b c n => match tdec U c (tevT E.tt e t x), lkT b s.boxes with
      | some y, some (.arr c' xs) => match Nat.beq i.size (U.sz c), castL c' c xs with
        | true, some xs => cond (inT n xs.length) (upsT b (.arr c (xs.set n.toNat y)) s.boxes fun bx => tput ⟨s.tmps, bx, s.caps, s.ctr⟩ d (.p .undef) K) none
        | _, _ => none
      | _, _ => none
    | _, _ => none
  | .makeSlice t l m, some d => match E.tt t, isTmp l, isTmp m, e l, lkT d s.boxes with
    | some ⟨_, .slice c b, _⟩, some t1, some t2, .v (.int _ n), none => match Nat.beq t1 t2 with
      | true => cond (makeT n b) (tput ⟨s.tmps, (d, .arr c (List.replicate n.toNat (U.dflt c))) :: s.boxes, s.caps, s.ctr⟩ (some d) (.p (.msl d c n)) K) none
      | false => none
    | _, _, _, _, _ => none
  | _, _ => none

def lksB (bx : List (Nat × BC U.D)) : List Nat → Option (List (BC U.D))
  | [] => some []
  | i :: r => match lkT i bx, lksB bx r with
    | some x, some l => some (x :: l)
    | _, _ => none

def decsB : (ks : List BK) → List (BC U.D) → Option (densB U ks)
  | [], [] => some ()
  | k :: ks, a :: as_ => match decB U k a, decsB ks as_ with
    | some x, some r => some (x, r)
    | _, _ => none
  | _, _ => none
def encsB : (ks : List BK) → densB U ks → List (BC U.D)
  | [], _ => []
  | k :: ks, (x, r) => encB U k x :: encsB ks r

def setBT {α : Type} : List Nat → List (BC U.D) → List (Nat × BC U.D) → (List (Nat × BC U.D) → α) → α
  | i :: ids, x :: xs, bx, k => upsT i x bx fun bx => setBT ids xs bx k
  | _, _, bx, k => k bx

def tcallX (g : FuncId) (as_ : List (TA U.D)) (bs : List (BC U.D)) : List (EntX U) → Option ((xs : List BK) × (rs : List K0) × Option (denR U rs × densB U xs))
  | [] => none
  | e :: r => match Nat.beq e.f g with
    | true => match decs U e.ps as_, decsB U e.xs bs with
      | some a, some x => some ⟨e.xs, e.rs, e.F a x⟩
      | _, _ => tcallX g as_ bs r
    | false => tcallX g as_ bs r

/-- A call to which boxes are lent. -/
def tlend (E : Env U R) (o : Oper) (s : TS U.D) (K : TS U.D → Option R) : Option R :=
  let e := tev [] s.tmps
  match o.op with
  | .call { callee := .value f, args, argTypes } => match sizesEq args argTypes, e f with
    | true, .fn h caps =>
      let as_ := targs U E.tt e args argTypes ++ caps
      let ids := dedup (idsAL as_)
      match lksB U s.boxes ids with
      | some bs => match tcallX U h (renAL ids as_) bs E.ex with
        | some ⟨xs, rs, o'⟩ => o'.bind fun r => setBT U ids (encsB U xs r.2) s.boxes fun bx => tput ⟨s.tmps, bx, s.caps, s.ctr⟩ o.dst (.p (.v (encR U rs r.1))) K
        | none => none
      | none => none
    | _, _ => none
  | _ => none

/-- A guard's value. -/
def gw (w b : Bool) : Bool := match w with | true => b | false => !b

/-- What kind of operation it is: it computes; it calls; it makes; it turns boxes. -/
inductive Tc where
  | d | c | m | b
def tcls (o : Oper) : Tc :=
  match o.op with
  | .call { callee := .builtin .append, .. } => .m
  | .call { callee := .builtin _, .. } => .d
  | .call _ => .c
  | .buildSlice .. => .m
  | .alloc _ | .box .. | .store .. | .makeSlice .. => .b
  | _ => .d

/-- Do boxes go with the call? -/
def lends (E : Env U R) (o : Oper) (s : TS U.D) : Bool :=
  match o.op with
  | .call { callee := .value f, args, argTypes } => match tev [] s.tmps f with
    | .fn _ caps => match idsAL (targs U E.tt (tev [] s.tmps) args argTypes ++ caps) with
      | [] => false
      | _ => true
    | _ => false
  | _ => false

/-- One operation that has no guard. -/
def top0 (E : Env U R) (drawn : Bool) (o : Oper) (s : TS U.D) (K : TS U.D → Option R) : Option R :=
  match tcls o with
  | .d => match tdv U E.tt o (fun gs => tev gs s.tmps) s.boxes with
    | some p => prK U p fun a => whA a fun a => tput s o.dst (.p a) K
    | none => none
  | .c => match o.op with
    | .call { callee := .value f, args, argTypes } => match lends U E o s with
      | false => tcall U E none (tev [] s.tmps) f args argTypes fun a => whA a fun a => tput s o.dst (.p a) K
      | true => match drawn with
        | false => tlend U E o s K
        | true => none
    | _ => none
  | .m => tmake U E o s K
  | .b => tbox U E o s K

def isDst (t : Nat) : Option Tmp → Bool
  | some d => Nat.beq t d
  | none => false

/-- One operation under a guard. -/
def top1 (E : Env U R) (t : Nat) (w g : Bool) (o : Oper) (s : TS U.D) (K : TS U.D → Option R) : Option R :=
  match isDst t o.dst with
  | true => none
  | false => match tcls o with
  | .d => match tdv U E.tt o (fun gs => tev ((t, w) :: gs) s.tmps) s.boxes with
    | some p => prG U g p fun a => whA a fun a => tput s o.dst (.may t w g a) K
    | none => none
  | .c => match o.op with
    | .call { callee := .value f, args, argTypes } => tcall U E (some g) (tev [(t, w)] s.tmps) f args argTypes fun a => whA a fun a => tput s o.dst (.may t w g a) K
    | _ => none
  | _ => none

def top (E : Env U R) (drawn : Bool) (ops : Array Oper) (o : Oper) (s : TS U.D) (K : TS U.D → Option R) : Option R :=
  match o.guard with
  | none => top0 U E drawn o s K
  | some (j, w) => match atL ops.toList j with
    | some oj => match oj.dst with
      | some t => match rawM s.tmps t with
        | .p (.v (.bool b)) => top1 U E t w (gw w b) o s K
        | .may _ _ g (.v (.bool b)) => top1 U E t w (g && gw w b) o s K
        | _ => none
      | none => none
    | none => none

def tops (E : Env U R) (ops : Array Oper) : List Oper → TS U.D → (TS U.D → Option R) → Option R
  | [], s, K => K s
  | o :: r, s, K => top U E false ops o s fun s => tops E ops r s K

def topsQ (E : Env U R) (ops : Array Oper) : List Nat → TS U.D → (TS U.D → Option R) → Option R
  | [], s, K => K s
  | i :: r, s, K => match atL ops.toList i with
    | some o => top U E true ops o s fun s => topsQ E ops r s K
    | none => none

def thenT (n : TS U.D → Option R) (K : Exit → TS U.D → Option R) : Exit → TS U.D → Option R
  | .normal, s => n s
  | e, s => K e s

def blockT (id : Nat) (K : Exit → TS U.D → Option R) : Exit → TS U.D → Option R
  | .exit id', s => match Nat.beq id' id with
    | true => K .normal s
    | false => K (.exit id') s
  | e, s => K e s

/-- The number of the first region in code. -/
def regId : Code → Nat
  | .region id _ _ => id
  | .seq a _ => regId a
  | .cond _ a _ => regId a
  | .block _ c => regId c
  | .loop c => regId c
  | _ => 0

/-- Code, executed; at a loop it asks what comes of it. -/
def trun (E : Env U R) : Code → (Exit → TS U.D → Option R) → TS U.D → Option R
  | .skip, K, s => K .normal s
  | .region _ ops false, K, s => tops U E ops ops.toList s (K .normal)
  | .region id ops true, K, s => match lkT id E.ord with
    | some l => topsQ U E ops l s (K .normal)
    | none => none
  | .seq a b, K, s => trun E a (thenT U (trun E b K) K) s
  | .cond c x y, K, s => match isTmp c with
    | some t => match rawM s.tmps t with
      | .p (.v (.bool b)) => cond b (tput s (some t) (.p (.v (.bool true))) (trun E x K)) (tput s (some t) (.p (.v (.bool false))) (trun E y K))
      | _ => none
    | none => none
  | .block id c, K, s => trun E c (blockT U id K) s
  | .loop c, _, s => E.lp (regId c) s
  | .exit id, K, s => K (.exit id) s
  | .ret, K, s => K .ret s
  | _, _, _ => none

/-- The body of the loop with this number, executed with what follows the loop. -/
def tat (E : Env U R) (key : Nat) : Code → (Exit → TS U.D → Option R) → TS U.D → Option (Option R)
  | .seq a b, K, s => match tat E key a (thenT U (trun U E b K) K) s with
    | some r => some r
    | none => tat E key b K s
  | .cond _ x y, K, s => match tat E key x K s with
    | some r => some r
    | none => tat E key y K s
  | .block id c, K, s => tat E key c (blockT U id K) s
  | .loop c, K, s => match Nat.beq (regId c) key with
    | true => some (trun U E c (thenT U (E.lp key) K) s)
    | false => tat E key c (thenT U (E.lp (regId c)) K) s
  | _, _, _ => none

def mkM (n : Nat) (l : List (Nat × TA U.D)) : List (TM U.D) := (List.range n).map fun t => match lkT t l with | some a => .p a | none => .p .bot

def idsK : K0 → List Nat
  | .box i _ => [i]
  | .msl i _ => [i]
  | _ => []
def idsKd : Kd → List Nat
  | .s k => idsK k
  | .fn _ ks => ks.flatMap idsK
def idsBK : BK → List Nat
  | .cells ks => ks.flatMap idsK
  | _ => []
def noOwnK : K0 → Bool
  | .own _ _ => false
  | _ => true
def noOwnKd : Kd → Bool
  | .s _ => true
  | .fn _ ks => ks.all noOwnK
def sitesK : Kd → List Nat
  | .s (.own s _) => [s]
  | _ => []
def sitesBK : BK → List Nat
  | .cells ks => ks.flatMap fun k => match k with | .own s _ => [s] | _ => []
  | _ => []
def sitesL (sp : LSpec) : List Nat := sp.ts.flatMap (fun p => sitesK p.2) ++ sp.bs.flatMap fun p => sitesBK p.2
def memN (i : Nat) : List Nat → Bool
  | [] => false
  | j :: r => Nat.beq i j || memN i r
def nodupN : List Nat → Bool
  | [] => true
  | i :: r => !(memN i r) && nodupN r
def zipK : List (Nat × Kd) → List (TA U.D) → List (Nat × TA U.D)
  | p :: ps, a :: as_ => (p.1, a) :: zipK ps as_
  | _, _ => []
def zipB : List (Nat × BK) → List (BC U.D) → List (Nat × BC U.D)
  | p :: ps, a :: as_ => (p.1, a) :: zipB ps as_
  | _, _ => []

@[reducible] def LSpec.V (sp : LSpec) : Type := dens U (sp.ts.map (·.2)) × densB U (sp.bs.map (·.2))

/-- The state at a loop's head. -/
def stOf (nt : Nat) (sp : LSpec) (v : sp.V U) : TS U.D :=
  ⟨mkM U nt (zipK U sp.ts (encs U _ v.1)), zipB U sp.bs (encsB U _ v.2), (sitesL sp).map (fun s => (s, 0)), 1⟩

def ownTok : K0 → TA U.D → List (Nat × Nat)
  | .own _ _, .v (.own s ver _ _) => [(s, ver)]
  | _, _ => []
def ownToks : List K0 → List (TA U.D) → List (Nat × Nat)
  | k :: ks, a :: as_ => ownTok U k a ++ ownToks ks as_
  | _, _ => []
def ownKd : Kd → TA U.D → List (Nat × Nat)
  | .s k, a => ownTok U k a
  | _, _ => []
def ownB : BK → BC U.D → List (Nat × Nat)
  | .cells ks, .cells as_ => ownToks U ks as_
  | _, _ => []
def distinctT : List (Nat × Nat) → Bool
  | [] => true
  | p :: r => (Nat.beq p.1 0 || r.all fun q => !(Nat.beq q.1 p.1)) && distinctT r

/-- A loop's form is in order. -/
def spB (sp : LSpec) : Bool :=
  nodupN (sitesL sp) && (sitesL sp).all (fun s => Nat.ble 1 s) && sp.ts.all (fun p => noOwnKd p.2) &&
  (sp.ts.flatMap (fun p => idsKd p.2) ++ sp.bs.flatMap fun p => idsBK p.2).all fun i => memN i (sp.bs.map (·.1))

def lksT (tmps : List (TM U.D)) : List (Nat × Kd) → List (TA U.D)
  | [] => []
  | p :: r => nthM tmps p.1 :: lksT tmps r
def lksBx (bx : List (Nat × BC U.D)) : List (Nat × BK) → Option (List (BC U.D))
  | [] => some []
  | p :: r => match lkT p.1 bx, lksBx bx r with
    | some x, some l => some (x :: l)
    | _, _ => none

/-- What a state holds at a loop's head, if it is of the loop's form. -/
def decS (nt : Nat) (sp : LSpec) (s : TS U.D) : Option (sp.V U) :=
  let as_ := lksT U s.tmps sp.ts
  match Nat.beq s.tmps.length nt, lksBx U s.boxes sp.bs with
  | true, some bs =>
    let os := (sp.ts.zip as_).flatMap (fun p => ownKd U p.1.2 p.2) ++ (sp.bs.zip bs).flatMap (fun p => ownB U p.1.2 p.2)
    match distinctT os && os.all (fun p => tokOK p.1 p.2 s.caps) && s.boxes.all (fun p => Nat.blt p.1 1000 || memN p.1 (sp.bs.map (·.1))), decs U _ as_, decsB U _ bs with
    | true, some a, some b => some (a, b)
    | _, _, _ => none
  | _, _ => none

/-- The end of a function: what a result variable holds. -/
def tres (E : Env U R) (s : TS U.D) : ResultVar → Option (TA U.D)
  | .tmp t => some (nthM s.tmps t)
  | .cell a t => match E.tt t with
    | some i => tload i (nthM s.tmps a) s.boxes
    | none => none
def tresL (E : Env U R) (s : TS U.D) : List ResultVar → Option (List (TA U.D))
  | [] => some []
  | r :: rs => match tres U E s r, tresL E s rs with
    | some a, some l => some (a :: l)
    | _, _ => none

def decR : (ks : List K0) → List (TA U.D) → Option (denR U ks)
  | [k], [a] => dec0 U k a
  | [], [] => some ()
  | k :: l :: ks, as_ => decs0 U (k :: l :: ks) as_
  | _, _ => none

def extsT (n : Nat) (k : Nat) (bx : List (Nat × BC U.D)) : Option (List (BC U.D)) :=
  match n with
  | 0 => some []
  | n + 1 => match lkT (1000 + k) bx, extsT n (k + 1) bx with
    | some x, some l => some (x :: l)
    | _, _ => none

/-- A slice that was made, as it is returned. -/
def mslR (k : K0) (s : TS U.D) (i c : Nat) (n : Int) : Option (den0 U k) :=
  match lkT i s.boxes with
  | some (.arr c' xs) => match castL c' c xs, Nat.ble (i + 1) 1000 && Nat.ble 1 (U.sz c) with
    | some xs, true => cond (Nat.beq xs.length n.toNat) (dec0 U k (.v (.sl c xs))) none
    | _, _ => none
  | _ => none

def finR (fn : Func) (rs : List K0) (E : Env U R) (s : TS U.D) : Option (denR U rs) :=
  match fn.results.toList with
  | [rv] => match rs, tres U E s rv with
    | [k], some (.msl i c n) => mslR U k s i c n
    | [k], some a => dec0 U k a
    | _, _ => none
  | rvs => match tresL U E s rvs with
    | some as_ => match as_ with
      | [_] => none
      | _ => decR U rs as_
    | none => none

def finP (fn : Func) (rs : List K0) (E : Env U (denR U rs)) : Exit → TS U.D → Option (denR U rs)
  | .normal, s | .ret, s => finR U fn rs E s
  | _, _ => none
def finX (fn : Func) (rs : List K0) (xs : List BK) (E : Env U (denR U rs × densB U xs)) : Exit → TS U.D → Option (denR U rs × densB U xs)
  | .normal, s | .ret, s => match extsT U xs.length 0 s.boxes with
    | some bs => match decsB U xs bs with
      | some x => (finR U fn rs E s).bind fun r => some (r, x)
      | none => none
    | none => none
  | _, _ => none

def padM (n : Nat) : List (TA U.D) → List (TM U.D)
  | [] => match n with
    | 0 => []
    | n + 1 => .p .bot :: padM n []
  | a :: r => match n with
    | 0 => []
    | n + 1 => .p a :: padM n r

def zipX (k : Nat) : List (BC U.D) → List (Nat × BC U.D)
  | [] => []
  | x :: r => (1000 + k, x) :: zipX (k + 1) r

/-- The state in which a function begins. -/
def st0 (fn : Func) (as_ : List (TA U.D)) (bs : List (BC U.D)) : TS U.D := ⟨padM U fn.ntmps as_, zipX U 0 bs, [], 1⟩

end

def cod (f : Func) : Code := match f.body with | some c => c | none => .skip
end Go.Tx
