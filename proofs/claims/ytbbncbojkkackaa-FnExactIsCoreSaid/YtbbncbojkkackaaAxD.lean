/- The abstract layer, part 4: operations on the whole state, regions, code. -/
import Derived.Test.YtbbncbojkkackaaAxC
namespace Go.Ax

def boxCells : AV → Option (List AV)
  | .pv (.agg cs) => some (cs.map .pv)
  | .pv (.tup _) => none
  | .bot => none
  | .undef => none
  | x => some [x]

mutual
def AV.ids : AV → List Nat
  | .box i _ => [i]
  | .msl i _ _ => [i]
  | .fn _ caps => AV.idsL caps
  | _ => []
def AV.idsL : List AV → List Nat
  | [] => []
  | x :: r => AV.ids x ++ AV.idsL r
end

def dedup : List Nat → List Nat
  | [] => []
  | x :: r => if x ∈ dedup r then dedup r else x :: dedup r

def posIn (i : Nat) : List Nat → Nat
  | [] => 0
  | x :: r => if i = x then 0 else posIn i r + 1

mutual
def AV.ren (ids : List Nat) : AV → AV
  | .box i off => .box (1000 + posIn i ids) off
  | .msl i sz len => .msl (1000 + posIn i ids) sz len
  | .fn f caps => .fn f (AV.renL ids caps)
  | x => x
def AV.renL (ids : List Nat) : List AV → List AV
  | [] => []
  | x :: r => AV.ren ids x :: AV.renL ids r
end

def setBoxes (ids : List Nat) (xs : List (List AV)) (bx : List (Nat × List AV)) : List (Nat × List AV) :=
  match ids, xs with
  | i :: ids, x :: xs => setBoxes ids xs (ups i x bx)
  | _, _ => bx

/-- A call to which boxes are lent. -/
def callX (P : Program) (tab : Tab) (o : Oper) (f : Operand) (args : Array Operand) (argTypes : Array TypeId) (st : St) (K : St → Prop) : Prop :=
  match evl st.tmps f with
  | .fn g caps =>
    let as := argsT tab (evl st.tmps) { callee := .value f, args, argTypes } ++ caps
    let ids := dedup (AV.idsL as)
    args.size = argTypes.size ∧ ∃ exts, ids.map (fun i => lk i st.boxes) = exts.map some ∧ (∀ l ∈ exts, AV.noBoxL l = true) ∧
      ∃ Q, AC P g (AV.renL ids as) exts Q ∧ ∀ r xs, Q r xs → xs.length = exts.length → (∀ b ∈ r.blks, ¬ st.U b) →
        (∀ l ∈ xs, AV.noBoxL l = true) ∧
        K (({ st with boxes := setBoxes ids xs st.boxes, tips := regT o.dst r st.tips, U := fun b => st.U b ∨ b ∈ r.blks } : St).put o.dst (.pv (regP o.dst r)))
  | _ => False

/-- Operations that turn boxes. -/
def beff (tab : Tab) (o : Oper) (st : St) (K : St → Prop) : Prop :=
  match o.op, o.dst with
  | .alloc t, some d => match tab t with
    | some i => lk d st.boxes = none ∧ K (({ st with boxes := ups d (i.zero.map .pv) st.boxes } : St).put (some d) (.box d 0))
    | none => False
  | .box t x, some d => match boxCells (evT tab (evl st.tmps) t x) with
    | some cs => lk d st.boxes = none ∧ K (({ st with boxes := ups d cs st.boxes } : St).put (some d) (.box d 0))
    | none => False
  | .store t a x, d => match tab t, evl st.tmps a, boxCells (evT tab (evl st.tmps) t x) with
    | some i, .box b off, some vs => bindK (lk b st.boxes) fun cs =>
        vs.length = i.size ∧ off + vs.length ≤ cs.length ∧ K (({ st with boxes := ups b (lay cs off vs) st.boxes } : St).put d .undef)
    | _, _, _ => False
  | .makeSlice t l c, some d => match tab t, evl st.tmps l, evl st.tmps c with
    | some { td := .slice el, .. }, .pv (.lit (.int _ n)), .pv (.lit (.int _ m)) => match tab el with
      | some j => n = m ∧ 0 ≤ n ∧ n * j.bytes ≤ 140737488355328 ∧ n ≤ 4611686018427387904 ∧ 0 < j.size ∧ j.zero.length = j.size ∧ lk d st.boxes = none ∧
          K (({ st with boxes := ups d ((List.replicate n.toNat (j.zero.map AV.pv)).flatten) st.boxes } : St).put (some d) (.msl d j.size n.toNat))
      | none => False
    | _, _, _ => False
  | _, _ => False

/-- One operation, as it stands in a region that is run in the order of the text. -/
def aop (P : Program) (tab : Tab) (o : Oper) (K : St → Prop) (st : St) : Prop :=
  match cls o with
  | .d => bindK (dval tab o (evl st.tmps) st.boxes) fun v => K (st.put o.dst v)
  | .n => neff P tab o (evl st.tmps) st.tips st.U (fun v tips U => K (({ st with tips := tips, U := U } : St).put o.dst v)) ∨
      (match o.op with
        | .call { callee := .value f, args, argTypes } => callX P tab o f args argTypes st K
        | _ => False)
  | .b => beff tab o st K

/-- One operation, as it stands in a region whose order is drawn. -/
def aopQ (P : Program) (tab : Tab) (o : Oper) (K : St → Prop) (st : St) : Prop :=
  match cls o with
  | .d => bindK (dval tab o (evl st.tmps) st.boxes) fun v => K (st.put o.dst v)
  | .n => neff P tab o (evl st.tmps) st.tips st.U (fun v tips U => K (({ st with tips := tips, U := U } : St).put o.dst v))
  | .b => beff tab o st K

/-- Is the operation wanted? -/
def want (ops : Array Oper) (o : Oper) (st : St) : Option Bool :=
  match o.guard with
  | none => some true
  | some (j, w) => match (ops[j]?).bind (·.dst) with
    | none => none
    | some t => match st.tmps[t]? with
      | some (.pv (.lit (.bool b))) => some (b == w)
      | some .undef => some false
      | _ => none

def guarded (ops : Array Oper) (o : Oper) (op : (St → Prop) → St → Prop) (K : St → Prop) (st : St) : Prop :=
  bindK (want ops o st) fun g => match g with
    | true => op K st
    | false => K (st.put o.dst .undef)

def aops (P : Program) (tab : Tab) (ops : Array Oper) : List Oper → (St → Prop) → St → Prop
  | [], K, st => K st
  | o :: r, K, st => guarded ops o (aop P tab o) (aops P tab ops r K) st

/-- In a drawn order: the operations' numbers in an order in which those that compute come early. -/
def canon (ops : Array Oper) : Nat → Array Bool → List Nat
  | 0, _ => []
  | n + 1, listed =>
    let rs := Region.ready .any ops listed
    match rs.find? (fun i => ((ops[i]?).map fun o => cls o == .d).getD false) with
    | some i => i :: canon ops n (listed.setIfInBounds i true)
    | none => match rs with
      | i :: _ => i :: canon ops n (listed.setIfInBounds i true)
      | [] => []

def aopsQ (P : Program) (tab : Tab) (ops : Array Oper) : List Nat → (St → Prop) → St → Prop
  | [], K, st => K st
  | i :: r, K, st => match ops[i]? with
    | some o => guarded ops o (aopQ P tab o) (aopsQ P tab ops r K) st
    | none => False

/-- Each operation of the order is the only one that is ready, or it computes and commutes with what is not done and need not follow it. -/
def chk (ops : Array Oper) : List Nat → Array Bool → Bool
  | [], listed => (Region.ready .any ops listed).isEmpty
  | k :: r, listed =>
    (Region.ready .any ops listed).contains k &&
    (match ops[k]? with
      | some o =>
        (Region.ready .any ops listed == [k]) ||
        (cls o == .d && (List.range ops.size).all fun j => j == k || listed.getD j true ||
          (match ops[j]? with
            | some oj => (oj.after.any fun e => Region.binds .any e && e.on == k) || (o.apart ops oj && cls oj != .b)
            | none => true))
      | none => false) &&
    chk ops r (listed.setIfInBounds k true)

/-- The state b says no more than the state a does. -/
structure Le (a b : St) : Prop where
  len : a.tmps.length = b.tmps.length
  tmps : ∀ (t : Nat) x, b.tmps[t]? = some x → x = .bot ∨ a.tmps[t]? = some x
  boxes : ∀ i cs, lk i b.boxes = some cs → lk i a.boxes = some cs
  refsT : ∀ x ∈ b.tmps, ∀ i ∈ AV.ids x, (lk i b.boxes).isSome = true
  refsB : ∀ i cs, lk i b.boxes = some cs → ∀ x ∈ cs, ∀ j ∈ AV.ids x, (lk j b.boxes).isSome = true
  tips : ∀ s x, lk s b.tips = some x → lk s a.tips = some x
  U : ∀ b', b.U b' → a.U b'
  keep : ∀ i, 1000 ≤ i → (lk i a.boxes).isSome = true → (lk i b.boxes).isSome = true

def thenK (next : St → Prop) (K : Exit → St → Prop) : Exit → St → Prop
  | .normal, st => next st
  | e, st => K e st

def blockK (id : Nat) (K : Exit → St → Prop) : Exit → St → Prop
  | .exit id', st => if id' = id then K .normal st else K (.exit id') st
  | e, st => K e st

def awp (P : Program) (tab : Tab) : Code → (Exit → St → Prop) → St → Prop
  | .skip, K, st => K .normal st
  | .region _ ops false, K, st => aops P tab ops ops.toList (K .normal) st
  | .region _ ops true, K, st => chk ops (canon ops ops.size (Array.replicate ops.size false)) (Array.replicate ops.size false) = true ∧
      aopsQ P tab ops (canon ops ops.size (Array.replicate ops.size false)) (K .normal) st
  | .seq a b, K, st => awp P tab a (thenK (awp P tab b K) K) st
  | .cond c x y, K, st => match evl st.tmps c with
    | .pv (.lit (.bool b)) => match b with
      | true => awp P tab x K st
      | false => awp P tab y K st
    | _ => False
  | .block id c, K, st => awp P tab c (blockK id K) st
  | .loop c, K, st => ∃ I : Nat → St → Prop, (∃ n st', Le st st' ∧ I n st') ∧
      ∀ n st, I n st → awp P tab c (thenK (fun st' => ∃ m, m < n ∧ ∃ st'', Le st' st'' ∧ I m st'') K) st
  | .exit id, K, st => K (.exit id) st
  | .ret, K, st => K .ret st
  | _, _, _ => False

/-- A result. -/
def resA (tab : Tab) (st : St) : ResultVar → Option AV
  | .tmp t => st.tmps[t]?
  | .cell a t => match tab t with
    | some i => bind (st.tmps[a]?) fun p => loadA i p st.boxes
    | none => none

/-- A box's cells as elements of so many cells. -/
def chunk (sz : Nat) : Nat → List PV → List PV
  | 0, _ => []
  | n + 1, cs => (if sz = 1 then cs.headD default else .agg (cs.take sz)) :: chunk sz n (cs.drop sz)

def TipSt (st : St) : PV → Prop
  | .own s ob sz es => ob = none ∨ lk s st.tips = some (ob, es.length * sz)
  | _ => True

/-- The end of a call: what Q asks of the results. -/
def finQ (Q : PV → List (List AV) → Prop) (r : PV) (xs : List (List AV)) (st : St) : Prop :=
  Q r.erase xs ∨ ((∀ b ∈ r.blks, st.U b) ∧ TipSt st r ∧ Q r xs)

def extsOf (n : Nat) (st : St) : Option (List (List AV)) :=
  (List.range n).foldr (fun j acc => match lk (1000 + j) st.boxes, acc with | some cs, some l => some (cs :: l) | _, _ => none) (some [])

def fin (tab : Tab) (fn : Func) (nx : Nat) (Q : PV → List (List AV) → Prop) : Exit → St → Prop
  | .normal, st | .ret, st => bindK (extsOf nx st) fun xs => (∀ l ∈ xs, AV.noBoxL l = true) ∧
      match fn.results.toList with
      | [rv] => (match resA tab st rv with
        | some (.pv r) => finQ Q r xs st
        | some (.msl i sz len) => ∃ l, (bind (lk i st.boxes) allPV) = some l ∧ l.length = len * sz ∧ i < 1000 ∧ 0 < sz ∧
            ∀ b, ¬ st.U b → ((∀ b' ∈ PV.blksL (chunk sz len l), st.U b') ∧ Q (.own 0 (some (b, 0)) sz (chunk sz len l)) xs) ∨ Q (PV.erase (.sl sz (chunk sz len l))) xs
        | _ => False)
      | rvs => bindK (bind (rvs.mapM (resA tab st)) allPV) fun rs => finQ Q (.tup rs) xs st
  | _, _ => False

end Go.Ax
