/- The abstract layer, part 22: the same computation with what is not to be laid open behind names (an oracle that is all equations), for evaluation. -/
import Derived.Test.YtbbncbojkkackaaAxX
set_option linter.unusedVariables false
namespace Go.Ax

/-- Functions on data, each held equal to a plain one. -/
structure Orc where
  len : List PV → Nat
  nth : List PV → Int → Option PV
  sub : List PV → Int → Int → Option (List PV)
  app : List PV → List PV → List PV
  fits : List PV → List PV → Nat → Prop
  add : IntKind → Int → Int → Int
  min_ : IntKind → Int → Int → Int
  mul : IntKind → Int → Int → Int
  quo : IntKind → Int → Int → Int
  rem : Int → Int → Int
  and : IntKind → Int → Int → Int
  or : IntKind → Int → Int → Int
  xor : IntKind → Int → Int → Int
  shl : IntKind → Int → Int → Int
  shr : IntKind → Int → Int → Int
  eq : Int → Int → Bool
  lt : Int → Int → Bool
  le : Int → Int → Bool
  wrap : IntKind → Int → Int
  imax : Int → Int → Int
  imin : Int → Int → Int
  seq : ByteArray → ByteArray → Bool
  sapp : ByteArray → ByteArray → ByteArray
  sfits : ByteArray → ByteArray → Bool
  ssize : ByteArray → Nat
  sat : ByteArray → Int → Option Int
  ssub : ByteArray → Int → Int → Option ByteArray
  bytes : List PV → Option ByteArray
  sbytes : ByteArray → List PV
  erase : PV → PV
  mfits : Int → Nat → Prop
  rep : Int → List AV → List AV
  inB : List AV → Nat → Nat → Prop
  olay : List AV → Nat → List AV → List AV
  mull : Int → Nat → Nat
  tonat : Int → Nat
  inM : Int → Nat → Bool

def Orc.std : Orc where
  len := List.length
  nth := fun es n => if 0 ≤ n then es[n.toNat]? else none
  sub := fun es l h => if 0 ≤ l ∧ l ≤ h ∧ h ≤ es.length then some ((es.drop l.toNat).take (h.toNat - l.toNat)) else none
  app := fun es ys => es ++ ys
  fits := fun es ys b => (es.length + ys.length) * b ≤ 140737488355328 ∧ es.length + ys.length ≤ 4611686018427387904
  add := fun k x y => k.wrap (x + y)
  min_ := fun k x y => k.wrap (x - y)
  mul := fun k x y => k.wrap (x * y)
  quo := fun k x y => k.wrap (x.tdiv y)
  rem := fun x y => x.tmod y
  and := fun k x y => k.wrap (BitVec.ofInt k.bits x &&& BitVec.ofInt k.bits y).toNat
  or := fun k x y => k.wrap (BitVec.ofInt k.bits x ||| BitVec.ofInt k.bits y).toNat
  xor := fun k x y => k.wrap (BitVec.ofInt k.bits x ^^^ BitVec.ofInt k.bits y).toNat
  shl := fun k x y => k.wrap (x * 2 ^ (min y.toNat k.bits))
  shr := fun k x y => x.fdiv (2 ^ (min y.toNat k.bits))
  eq := fun x y => x == y
  lt := fun x y => decide (x < y)
  le := fun x y => decide (x ≤ y)
  wrap := fun k x => k.wrap x
  imax := fun x y => max x y
  imin := fun x y => min x y
  seq := fun x y => x.toList == y.toList
  sapp := fun x y => x ++ y
  sfits := fun x y => decide (x.size + y.size ≤ 9223372036854775807)
  ssize := fun x => x.size
  sat := fun s n => if 0 ≤ n then (s.data[n.toNat]?).map fun c => (c.toNat : Int) else none
  ssub := fun s l h => if 0 ≤ l ∧ l ≤ h ∧ h ≤ s.size then some (s.extract l.toNat h.toNat) else none
  bytes := fun es => (bytesOf es).map fun l => ⟨l.toArray⟩
  sbytes := fun s => s.data.toList.map fun b => .lit (.int .u8 b.toNat)
  erase := PV.erase
  mfits := fun n b => 0 ≤ n ∧ n * b ≤ 140737488355328 ∧ n ≤ 4611686018427387904
  rep := fun n z => (List.replicate n.toNat z).flatten
  inB := fun cs off n => off + n ≤ cs.length
  olay := fun cs off vs => lay cs off vs
  mull := fun n sz => n.toNat * sz
  tonat := fun n => n.toNat
  inM := fun n len => decide (0 ≤ n ∧ n < len)

namespace O
variable (O : Orc)

def intBin (op : BinOp) (k : IntKind) (x y : Int) : Option PV :=
  match op with
  | .add => some (.lit (.int k (O.add k x y)))
  | .sub => some (.lit (.int k (O.min_ k x y)))
  | .mul => some (.lit (.int k (O.mul k x y)))
  | .quo => if y ≠ 0 then some (.lit (.int k (O.quo k x y))) else none
  | .rem => if y ≠ 0 then some (.lit (.int k (O.rem x y))) else none
  | .and => some (.lit (.int k (O.and k x y)))
  | .or => some (.lit (.int k (O.or k x y)))
  | .xor => some (.lit (.int k (O.xor k x y)))
  | .eql => some (.lit (.bool (O.eq x y)))
  | .neq => some (.lit (.bool (!(O.eq x y))))
  | .lss => some (.lit (.bool (O.lt x y)))
  | .leq => some (.lit (.bool (O.le x y)))
  | .gtr => some (.lit (.bool (O.lt y x)))
  | .geq => some (.lit (.bool (O.le y x)))
  | _ => none

def strBin (op : BinOp) (x y : ByteArray) : Option PV :=
  match op with
  | .add => match O.sfits x y with
    | true => some (.lit (.string (O.sapp x y)))
    | false => none
  | .eql => some (.lit (.bool (O.seq x y)))
  | .neq => some (.lit (.bool (!(O.seq x y))))
  | _ => none

def shA (op : BinOp) (k : IntKind) (x y : Int) : Option AV :=
  if 0 ≤ y then some (.pv (.lit (.int k (match op with | .shl => O.shl k x y | _ => O.shr k x y)))) else none

def binA (tab : Tab) (t : TypeId) (op : BinOp) (a b : AV) : Option AV :=
  match op, a, b with
  | .shl, .pv (.lit (.int k x)), .pv (.lit (.int _ y)) => shA O .shl k x y
  | .shr, .pv (.lit (.int k x)), .pv (.lit (.int _ y)) => shA O .shr k x y
  | op, .pv (.lit (.int k x)), .pv (.lit (.int k' y)) => if k = k' then (intBin O op k x y).map .pv else none
  | op, .pv (.lit (.string x)), .pv (.lit (.string y)) => (strBin O op x y).map .pv
  | .eql, .pv (.lit (.bool x)), .pv (.lit (.bool y)) => match tab t with
    | some { td := .bool, .. } => some (.pv (.lit (.bool (x == y))))
    | _ => none
  | .neq, .pv (.lit (.bool x)), .pv (.lit (.bool y)) => match tab t with
    | some { td := .bool, .. } => some (.pv (.lit (.bool (!(x == y)))))
    | _ => none
  | _, _, _ => none

def unA (op : UnOp) (a : AV) : Option AV :=
  match op, a with
  | .not, .pv (.lit (.bool b)) => some (.pv (.lit (.bool (!b))))
  | .neg, .pv (.lit (.int k n)) => some (.pv (.lit (.int k (O.min_ k 0 n))))
  | _, _ => none

def convA (tab : Tab) (s d : TypeId) (x : AV) : Option AV :=
  match tab s, tab d, x with
  | some { td := .int _, .. }, some { td := .int k, .. }, .pv (.lit (.int _ n)) => some (.pv (.lit (.int k (O.wrap k n))))
  | some { td := .slice e, .. }, some { td := .str, .. }, .pv x =>
    match tab e, x.elems with
    | some { td := .int .u8, .. }, some (1, es) => (O.bytes es).map fun l => .pv (.lit (.string l))
    | _, _ => none
  | _, _, _ => none

def idxA (tab : Tab) (t : TypeId) (x i : AV) : Option AV :=
  match tab t, x, i with
  | some { td := .slice el, .. }, .pv x, .pv (.lit (.int _ n)) =>
    match tab el, x.elems with
    | some j, some (sz, es) => if j.size = sz then (O.nth es n).map fun e => .ro e.cells else none
    | _, _ => none
  | some { td := .slice el, .. }, .msl b sz len, .pv (.lit (.int _ n)) =>
    match tab el with
    | some j => if j.size = sz then (match O.inM n len with | true => some (.box b (O.mull n sz)) | false => none) else none
    | none => none
  | _, _, _ => none

def strIdxA (tab : Tab) (t : TypeId) (x i : AV) : Option AV :=
  match tab t, x, i with
  | some { td := .str, .. }, .pv (.lit (.string s)), .pv (.lit (.int _ n)) => (O.sat s n).map fun c => .pv (.lit (.int .u8 c))
  | _, _, _ => none

def ownP (s : Nat) (ob : Option (Nat × Nat)) (sz : Nat) (l : Int) : Option (List PV) → Bool → Option AV
  | some r, true => some (.pv (.own s (ob.map fun p => (p.1, p.2 + l.toNat * sz)) sz r))
  | some _, false => some (.pv (.sl sz []))
  | none, _ => none

def sliceA (tab : Tab) (t : TypeId) (x : AV) (lo hi mx : Option AV) : Option AV :=
  match tab t, x, mx with
  | some { td := .str, .. }, .pv (.lit (.string s)), none =>
    match boundA 0 lo, boundA (O.ssize s) hi with
    | some l, some h => (O.ssub s l h).map fun r => .pv (.lit (.string r))
    | _, _ => none
  | some { td := .slice el, .. }, .pv x, none =>
    match tab el, x with
    | some j, .sl sz es => match boundA 0 lo, boundA (O.len es) hi with
      | some l, some h => if j.size = sz ∧ 0 < sz then (O.sub es l h).map fun r => .pv (.sl sz r) else none
      | _, _ => none
    | some j, .own s ob sz es => match boundA 0 lo, boundA (O.len es) hi with
      | some l, some h => if j.size = sz ∧ 0 < sz then
          ownP s ob sz l (O.sub es l h) (O.lt l h) else none
      | _, _ => none
    | _, _ => none
  | some { td := .slice el, .. }, .pv x, some (.pv (.lit (.int _ 0))) =>
    match tab el, x.elems, boundA 0 lo, boundA 1 hi with
    | some j, some _, some 0, some 0 => some (.pv (.own 0 none j.size []))
    | _, _, _, _ => none
  | _, _, _ => none

def lenA (tab : Tab) (t : TypeId) (x : AV) : Option AV :=
  match tab t, x with
  | some { td := .str, .. }, .pv (.lit (.string s)) => some (.pv (.lit (.int .i64 (O.ssize s))))
  | some { td := .slice _, .. }, .pv x => x.elems.map fun p => .pv (.lit (.int .i64 (O.len p.2)))
  | some { td := .slice _, .. }, .msl _ _ len => some (.pv (.lit (.int .i64 len)))
  | _, _ => none


def dval (tab : Tab) (o : Oper) (e : Operand → AV) (bx : List (Nat × List AV)) : Option AV :=
  match o.op with
  | .move x | .assign x => some (evT tab e o.type x)
  | .pick c a b => match e c with
    | .pv (.lit (.bool true)) => some (e a)
    | .pv (.lit (.bool false)) => some (e b)
    | _ => none
  | .load t a => match tab t with
    | some i => loadA i (e a) bx
    | none => none
  | .nilCheck x => match e x with
    | .box b off => some (.box b off)
    | .ro cs => some (.ro cs)
    | _ => none
  | .binOp op t x y _ => binA O tab t op (e x) (e y)
  | .unOp op _ x => unA O op (e x)
  | .convert s d x => convA O tab s d (e x)
  | .fieldAddr t x f => fieldAddrA tab t (e x) f
  | .field t x f => fieldA tab t (e x) f
  | .indexAddr t x i => idxA O tab t (e x) (e i)
  | .index t x i => strIdxA O tab t (e x) (e i)
  | .slice t x lo hi mx => sliceA O tab t (e x) (lo.map e) (hi.map e) (mx.map e)
  | .extract x k => match e x with
    | .pv (.tup vs) => (vs[k]?).map .pv
    | _ => none
  | .makeFunc (.func f) first caps => if first.toList = [] then some (.fn f (caps.toList.map e)) else none
  | .build t parts => buildA tab t e parts.toList
  | .call { callee := .builtin .len, args, argTypes } => match args.toList, argTypes.toList with
    | [x], [t] => lenA O tab t (e x)
    | _, _ => none
  | .call { callee := .builtin .max, args, .. } => match args.toList with
    | [x, y] => match e x, e y with
      | .pv (.lit (.int k a)), .pv (.lit (.int k' b)) => if k = k' then some (.pv (.lit (.int k (O.imax a b)))) else none
      | _, _ => none
    | _ => none
  | .call { callee := .builtin .min, args, .. } => match args.toList with
    | [x, y] => match e x, e y with
      | .pv (.lit (.int k a)), .pv (.lit (.int k' b)) => if k = k' then some (.pv (.lit (.int k (O.imin a b)))) else none
      | _, _ => none
    | _ => none
  | _ => none

def regT (d : Option Tmp) (r : PV) (tips : Tips) : Tips :=
  match d, r with
  | some d, .own _ ob sz es => ups d (ob, O.len es * sz) tips
  | _, _ => tips

def srcE : List PV → Option (List PV)
  | [] => some []
  | _ => none

def srcA (tab : Tab) (j : TI) (tx : TypeId) (x : AV) : Option (List PV) :=
  match tab tx, x with
  | some { td := .str, .. }, .pv (.lit (.string s)) => if j.size = 1 then some (O.sbytes s) else none
  | some { td := .slice _, .. }, .pv x => match x.elems with
    | some (sz, es) => if sz = j.size then some es else srcE es
    | none => none
  | _, _ => none

def appK (tab : Tab) (t tx : TypeId) (s x : AV) (d : Option Tmp) (tips : Tips) (U : Nat → Prop) (K : AV → Tips → (Nat → Prop) → Prop) : Prop :=
  match tab t, s, d with
  | some { td := .slice el, .. }, .pv (.own st ob sz es), some d =>
    match tab el with
    | some j => bindK (srcA O tab j tx x) fun ys =>
        (j.size = sz ∨ ob = none) ∧ 0 < j.size ∧ (ob = none ∨ lk st tips = some (ob, O.len es * sz)) ∧ O.fits es ys j.bytes ∧
        ∀ ob', (ob' = ob ∨ ∃ b, ¬ U b ∧ ob' = some (b, 0)) → (ob' = none → ys = []) →
          K (.pv (.own d ob' j.size (O.app es ys))) (ups d (ob', O.len (O.app es ys) * j.size) (del st tips)) (fun b => U b ∨ obBlk ob' b)
    | none => False
  | _, _, _ => False

def litK (tab : Tab) (t : TypeId) (n : Nat) (e : Operand → AV) (parts : List (Nat × Operand)) (d : Option Tmp) (tips : Tips) (U : Nat → Prop) (K : AV → Tips → (Nat → Prop) → Prop) : Prop :=
  match tab t, d with
  | some { td := .slice el, .. }, some d =>
    match tab el with
    | some j => (parts.map (·.1) == List.range n) = true ∧ decide (n * j.size ≤ 16777216) = true ∧ decide (0 < j.size) = true ∧
        bindK (allPV (parts.map fun p => evT tab e el p.2)) fun es => (es.all fun x => !x.isTup && x.cells.length == j.size) = true ∧
          ∀ b, ¬ U b → K (.pv (.own d (some (b, 0)) j.size es)) (ups d (some (b, 0), O.len es * j.size) tips) (fun b' => U b' ∨ b' = b)
    | none => False
  | _, _ => False

def callK (P : Program) (f : AV) (args : List AV) (d : Option Tmp) (tips : Tips) (U : Nat → Prop) (K : AV → Tips → (Nat → Prop) → Prop) : Prop :=
  match f with
  | .fn g caps => AV.noBoxL (args ++ caps) = true ∧ ∃ Q, AC P g (args ++ caps) [] Q ∧ ∀ r x, Q r x → (∀ b ∈ r.blks, ¬ U b) → K (.pv (regP d r)) (regT O d r tips) (fun b => U b ∨ b ∈ r.blks)
  | _ => False

def neff (P : Program) (tab : Tab) (o : Oper) (e : Operand → AV) (tips : Tips) (U : Nat → Prop) (K : AV → Tips → (Nat → Prop) → Prop) : Prop :=
  match o.op with
  | .call { callee := .builtin .append, args, argTypes } => match args.toList, argTypes.toList with
    | [s, x], [t, tx] => appK O tab t tx (evT tab e t s) (evT tab e tx x) o.dst tips U K
    | _, _ => False
  | .buildSlice t n parts => litK O tab t n e parts.toList o.dst tips U K
  | .call { callee := .value f, args, argTypes } => args.size = argTypes.size ∧ callK O P (e f) (argsT tab e { callee := .value f, args, argTypes }) o.dst tips U K
  | .binOp .eql t x y _ => isNilC y = true ∧ isNilC x = false ∧ (match tab t with | some { td := .slice _, .. } => nilK (e x) false tips U K | _ => False)
  | .binOp .neq t x y _ => isNilC y = true ∧ isNilC x = false ∧ (match tab t with | some { td := .slice _, .. } => nilK (e x) true tips U K | _ => False)
  | _ => False

def callX (P : Program) (tab : Tab) (o : Oper) (f : Operand) (args : Array Operand) (argTypes : Array TypeId) (st : St) (K : St → Prop) : Prop :=
  match evl st.tmps f with
  | .fn g caps =>
    let as := argsT tab (evl st.tmps) { callee := .value f, args, argTypes } ++ caps
    let ids := dedup (AV.idsL as)
    args.size = argTypes.size ∧ ∃ exts, ids.map (fun i => lk i st.boxes) = exts.map some ∧ (∀ l ∈ exts, AV.noBoxL l = true) ∧
      ∃ Q, AC P g (AV.renL ids as) exts Q ∧ ∀ r xs, Q r xs → xs.length = exts.length → (∀ b ∈ r.blks, ¬ st.U b) →
        (∀ l ∈ xs, AV.noBoxL l = true) ∧
        K (({ st with boxes := setBoxes ids xs st.boxes, tips := regT O o.dst r st.tips, U := fun b => st.U b ∨ b ∈ r.blks } : St).put o.dst (.pv (regP o.dst r)))
  | _ => False

def inL (i : Nat) : List Nat → Bool
  | [] => false
  | j :: r => i == j || inL i r

/-- Operations that turn boxes; those of the boxes in ms are not laid open. -/
def beff (ms : List Nat) (tab : Tab) (o : Oper) (st : St) (K : St → Prop) : Prop :=
  match o.op, o.dst with
  | .alloc t, some d => match tab t with
    | some i => lk d st.boxes = none ∧ K (({ st with boxes := ups d (i.zero.map .pv) st.boxes } : St).put (some d) (.box d 0))
    | none => False
  | .box t x, some d => match boxCells (evT tab (evl st.tmps) t x) with
    | some cs => lk d st.boxes = none ∧ K (({ st with boxes := ups d cs st.boxes } : St).put (some d) (.box d 0))
    | none => False
  | .store t a x, d => match tab t, evl st.tmps a, boxCells (evT tab (evl st.tmps) t x) with
    | some i, .box b off, some vs => bindK (lk b st.boxes) fun cs =>
        vs.length = i.size ∧ match inL b ms with
          | true => O.inB cs off i.size ∧ K (({ st with boxes := ups b (O.olay cs off vs) st.boxes } : St).put d .undef)
          | false => off + vs.length ≤ cs.length ∧ K (({ st with boxes := ups b (lay cs off vs) st.boxes } : St).put d .undef)
    | _, _, _ => False
  | .makeSlice t l c, some d => match tab t, evl st.tmps l, evl st.tmps c with
    | some { td := .slice el, .. }, .pv (.lit (.int _ n)), .pv (.lit (.int _ m)) => match tab el with
      | some j => n = m ∧ O.mfits n j.bytes ∧ 0 < j.size ∧ j.zero.length = j.size ∧ lk d st.boxes = none ∧
          K (({ st with boxes := ups d (O.rep n (j.zero.map AV.pv)) st.boxes } : St).put (some d) (.msl d j.size (O.tonat n)))
      | none => False
    | _, _, _ => False
  | _, _ => False

def aop (ms : List Nat) (P : Program) (tab : Tab) (o : Oper) (K : St → Prop) (st : St) : Prop :=
  match cls o with
  | .d => bindK (dval O tab o (evl st.tmps) st.boxes) fun v => K (st.put o.dst v)
  | .n => neff O P tab o (evl st.tmps) st.tips st.U (fun v tips U => K (({ st with tips := tips, U := U } : St).put o.dst v)) ∨
      (match o.op with
        | .call { callee := .value f, args, argTypes } => callX O P tab o f args argTypes st K
        | _ => False)
  | .b => beff O ms tab o st K

def aopQ (ms : List Nat) (P : Program) (tab : Tab) (o : Oper) (K : St → Prop) (st : St) : Prop :=
  match cls o with
  | .d => bindK (dval O tab o (evl st.tmps) st.boxes) fun v => K (st.put o.dst v)
  | .n => neff O P tab o (evl st.tmps) st.tips st.U (fun v tips U => K (({ st with tips := tips, U := U } : St).put o.dst v))
  | .b => beff O ms tab o st K

def aops (ms : List Nat) (P : Program) (tab : Tab) (ops : Array Oper) : List Oper → (St → Prop) → St → Prop
  | [], K, st => K st
  | o :: r, K, st => guarded ops o (aop O ms P tab o) (aops ms P tab ops r K) st

def aopsQ (ms : List Nat) (P : Program) (tab : Tab) (ops : Array Oper) : List Nat → (St → Prop) → St → Prop
  | [], K, st => K st
  | i :: r, K, st => match ops[i]? with
    | some o => guarded ops o (aopQ O ms P tab o) (aopsQ ms P tab ops r K) st
    | none => False

/-- The order in which a region that draws its order may be reckoned. -/
def ordOK (ops : Array Oper) (l : List Nat) : Bool :=
  decide (l = canon ops ops.size (Array.replicate ops.size false)) && chk ops l (Array.replicate ops.size false)

def awp (ms : List Nat) (P : Program) (tab : Tab) : Code → (Exit → St → Prop) → St → Prop
  | .skip, K, st => K .normal st
  | .region _ ops false, K, st => aops O ms P tab ops ops.toList (K .normal) st
  | .region _ ops true, K, st => ∃ l, ordOK ops l = true ∧ aopsQ O ms P tab ops l (K .normal) st
  | .seq a b, K, st => awp ms P tab a (thenK (awp ms P tab b K) K) st
  | .cond c x y, K, st => match evl st.tmps c with
    | .pv (.lit (.bool b)) => match b with
      | true => awp ms P tab x K st
      | false => awp ms P tab y K st
    | _ => False
  | .block id c, K, st => awp ms P tab c (blockK id K) st
  | .loop c, K, st => ∃ I : Nat → St → Prop, (∃ n st', Le st st' ∧ I n st') ∧
      ∀ n st, I n st → awp ms P tab c (thenK (fun st' => ∃ m, m < n ∧ ∃ st'', Le st' st'' ∧ I m st'') K) st
  | .exit id, K, st => K (.exit id) st
  | .ret, K, st => K .ret st
  | _, _, _ => False

def TipSt (st : St) : PV → Prop
  | .own s ob sz es => ob = none ∨ lk s st.tips = some (ob, O.len es * sz)
  | _ => True

def finQ (Q : PV → List (List AV) → Prop) (r : PV) (xs : List (List AV)) (st : St) : Prop :=
  Q (O.erase r) xs ∨ ((∀ b ∈ r.blks, st.U b) ∧ TipSt O st r ∧ Q r xs)

def fin (tab : Tab) (fn : Func) (nx : Nat) (Q : PV → List (List AV) → Prop) : Exit → St → Prop
  | .normal, st | .ret, st => bindK (extsOf nx st) fun xs => (∀ l ∈ xs, AV.noBoxL l = true) ∧
      match fn.results.toList with
      | [rv] => (match resA tab st rv with
        | some (.pv r) => finQ O Q r xs st
        | some (.msl i sz len) => ∃ l, (bind (lk i st.boxes) allPV) = some l ∧ l.length = len * sz ∧ i < 1000 ∧ 0 < sz ∧
            ∀ b, ¬ st.U b → ((∀ b' ∈ PV.blksL (chunk sz len l), st.U b') ∧ Q (.own 0 (some (b, 0)) sz (chunk sz len l)) xs) ∨ Q (PV.erase (.sl sz (chunk sz len l))) xs
        | _ => False)
      | rvs => bindK (bind (rvs.mapM (resA tab st)) allPV) fun rs => finQ O Q (.tup rs) xs st
  | _, _ => False

end O
end Go.Ax
