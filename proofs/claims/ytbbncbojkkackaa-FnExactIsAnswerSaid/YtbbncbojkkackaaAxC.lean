/- The abstract layer, part 3: contracts of functions, operations that call or make memory, code. -/
import Derived.Test.YtbbncbojkkackaaAxB
namespace Go.Ax

/-- What memory holds is what the world holds. -/
structure Agree (M : Mem) (w : World) : Prop where
  cell : ∀ b o v, M.cell b o = some v → w.cell? ⟨b, o, none⟩ = some v
  cap : ∀ b n, M.cap b = some n → b < w.heap.size

/-- A box: a block of cells that nothing else reads. -/
structure BoxAt (M : Mem) (ρ : Nat → Option Nat) (w : World) (b : Nat) (cs : List AV) : Prop where
  at_ : ∃ vs T, w.heap[b]? = some (.cells vs T (0, 0)) ∧ vs.size = cs.length ∧
    ∀ (j : Nat) c, cs[j]? = some c → RpA M ρ c (vs.getD j undef) ∧ (vs.getD j undef).oneCell' = true
  cell : ∀ o, M.cell b o = none
  cap : M.cap b = none

/-- Boxes that a caller lends: numbered from 1000 on. -/
def extρ (X : List Nat) (i : Nat) : Option Nat := if i < 1000 then none else X[i - 1000]?

structure ExtOK (M : Mem) (X : List Nat) (exts : List (List AV)) (w : World) : Prop where
  len : X.length = exts.length
  nodup : X.Nodup
  box : ∀ (j : Nat) cs b, exts[j]? = some cs → X[j]? = some b → BoxAt M (extρ X) w b cs

/-- A slice that was just made may be appended to. -/
def TipOK (M : Mem) (w : World) : PV → Prop
  | .own _ (some (b, off)) sz es => (∃ vs T n, w.heap[b]? = some (.cells vs T (0, 0)) ∧ M.cap b = some n ∧ n ≤ vs.size) ∧ ∀ o, off + es.length * sz ≤ o → M.cell b o = none
  | _ => True

structure Post (P : Program) (M : Mem) (X : List Nat) (w : World) (Q : PV → List (List AV) → Prop) (e : Ending) (w' : World) (v : Value) (M' : Mem) (r : PV) (exts' : List (List AV)) : Prop where
  ret : e = .returned v
  q : Q r exts'
  rp : Rp M' r v
  le : M.Le M'
  old : ∀ b, b < w.heap.size → M'.cell b = M.cell b ∧ M'.cap b = M.cap b
  agree : Agree M' w'
  os : w'.os = w.os
  tape : w'.tape = w.tape
  output : w'.output = w.output
  size : w.heap.size ≤ w'.heap.size
  frame : ∀ k, k < w.heap.size → k ∉ X → w'.heap[k]? = w.heap[k]?
  ext : ExtOK M' X exts' w'
  fresh : ∀ b ∈ r.blks, w.heap.size ≤ b ∧ b < w'.heap.size
  tip : TipOK M' w' r

/-- The function can be called: it has a body. -/
def Enter (P : Program) (f : FuncId) : Prop := ∃ fn, P.funcs[f]? = some fn ∧ fn.body.isNone = false ∧ (fn.name == "runtime.NumGoroutine") = false

/-- THE CONTRACT: called with values that read as `args`, with boxes lent that hold `exts`, the function returns a value that reads as some r of which Q holds. -/
def AC (P : Program) (f : FuncId) (args : List AV) (exts : List (List AV)) (Q : PV → List (List AV) → Prop) : Prop :=
  Enter P f ∧ ∀ (M : Mem) (X : List Nat) (w : World) (vs : Array Value), Agree M w → ExtOK M X exts w → vs.size = args.length →
    (∀ (i : Nat) x, args[i]? = some x → RpA M (extρ X) x (vs.getD i undef)) →
    Calls P f vs w fun e w' => ∃ v M' r exts', Post P M X w Q e w' v M' r exts'

theorem AC.mono {P : Program} {f : FuncId} {args : List AV} {exts : List (List AV)} {Q Q' : PV → List (List AV) → Prop} (h : AC P f args exts Q) (hq : ∀ r x, Q r x → Q' r x) : AC P f args exts Q' :=
  ⟨h.1, fun M X w vs a b c d => (h.2 M X w vs a b c d).mono fun _ _ ⟨v, M', r, x, p⟩ => ⟨v, M', r, x, { p with q := hq _ _ p.q }⟩⟩

/-- What was made is forgotten to have been made. -/
theorem AC.erase {P : Program} {f : FuncId} {args : List AV} {exts : List (List AV)} {Q Q' : PV → List (List AV) → Prop} (h : AC P f args exts Q) (hq : ∀ r x, Q r x → Q' r.erase x) : AC P f args exts Q' :=
  ⟨h.1, fun M X w vs a b c d => (h.2 M X w vs a b c d).mono fun _ _ ⟨v, M', r, x, p⟩ =>
    ⟨v, M', r.erase, x, { p with q := hq _ _ p.q, rp := p.rp.erase, fresh := by simp [PV.blks_erase], tip := by cases r <;> simp [PV.erase, TipOK] }⟩⟩

def del {α : Type} (k : Nat) : List (Nat × α) → List (Nat × α)
  | [] => []
  | (j, x) :: r => if k = j then del k r else (j, x) :: del k r

abbrev Tips := List (Nat × Option (Nat × Nat) × Nat)

def obBlk (ob : Option (Nat × Nat)) (b : Nat) : Prop := ∃ p, ob = some p ∧ b = p.1

/-- A result is registered at the site where it came in. -/
def regP (d : Option Tmp) (r : PV) : PV :=
  match d, r with
  | some d, .own _ ob sz es => .own d ob sz es
  | _, r => r
def regT (d : Option Tmp) (r : PV) (tips : Tips) : Tips :=
  match d, r with
  | some d, .own _ ob sz es => ups d (ob, es.length * sz) tips
  | _, _ => tips

/-- What append takes from its second operand. -/
def srcA (tab : Tab) (j : TI) (tx : TypeId) (x : AV) : Option (List PV) :=
  match tab tx, x with
  | some { td := .str, .. }, .pv (.lit (.string s)) => if j.size = 1 then some (s.data.toList.map fun b => .lit (.int .u8 b.toNat)) else none
  | some { td := .slice _, .. }, .pv x => match x.elems with
    | some (sz, es) => if sz = j.size ∨ es = [] then some es else none
    | none => none
  | _, _ => none

def appK (tab : Tab) (t tx : TypeId) (s x : AV) (d : Option Tmp) (tips : Tips) (U : Nat → Prop) (K : AV → Tips → (Nat → Prop) → Prop) : Prop :=
  match tab t, s, d with
  | some { td := .slice el, .. }, .pv (.own st ob sz es), some d =>
    match tab el with
    | some j => bindK (srcA tab j tx x) fun ys =>
        (j.size = sz ∨ ob = none) ∧ 0 < j.size ∧ (ob = none ∨ lk st tips = some (ob, es.length * sz)) ∧ (es.length + ys.length) * j.bytes ≤ 140737488355328 ∧ es.length + ys.length ≤ 4611686018427387904 ∧
        ∀ ob', (ob' = ob ∨ ∃ b, ¬ U b ∧ ob' = some (b, 0)) → (ob' = none → ys = []) →
          K (.pv (.own d ob' j.size (es ++ ys))) (ups d (ob', (es ++ ys).length * j.size) (del st tips)) (fun b => U b ∨ obBlk ob' b)
    | none => False
  | _, _, _ => False

def litK (tab : Tab) (t : TypeId) (n : Nat) (e : Operand → AV) (parts : List (Nat × Operand)) (d : Option Tmp) (tips : Tips) (U : Nat → Prop) (K : AV → Tips → (Nat → Prop) → Prop) : Prop :=
  match tab t, d with
  | some { td := .slice el, .. }, some d =>
    match tab el with
    | some j => parts.map (·.1) = List.range n ∧ n * j.size ≤ 16777216 ∧ 0 < j.size ∧
        bindK (allPV (parts.map fun p => evT tab e el p.2)) fun es => (∀ x ∈ es, x.isTup = false ∧ x.cells.length = j.size) ∧
          ∀ b, ¬ U b → K (.pv (.own d (some (b, 0)) j.size es)) (ups d (some (b, 0), es.length * j.size) tips) (fun b' => U b' ∨ b' = b)
    | none => False
  | _, _ => False

mutual
def AV.noBox : AV → Bool
  | .box _ _ => false
  | .msl _ _ _ => false
  | .fn _ caps => AV.noBoxL caps
  | _ => true
def AV.noBoxL : List AV → Bool
  | [] => true
  | x :: r => AV.noBox x && AV.noBoxL r
end

/-- A call without boxes. -/
def callK (P : Program) (f : AV) (args : List AV) (d : Option Tmp) (tips : Tips) (U : Nat → Prop) (K : AV → Tips → (Nat → Prop) → Prop) : Prop :=
  match f with
  | .fn g caps => AV.noBoxL (args ++ caps) = true ∧ ∃ Q, AC P g (args ++ caps) [] Q ∧ ∀ r x, Q r x → (∀ b ∈ r.blks, ¬ U b) → K (.pv (regP d r)) (regT d r tips) (fun b => U b ∨ b ∈ r.blks)
  | _ => False

/-- A slice against nil: it is empty if it is nil. -/
def nilK (x : AV) (neg : Bool) (tips : Tips) (U : Nat → Prop) (K : AV → Tips → (Nat → Prop) → Prop) : Prop :=
  match x with
  | .pv x => match x.elems with
    | some (_, es) => ∀ c : Bool, (c = true → es = []) → K (.pv (.lit (.bool (if neg then !c else c)))) tips U
    | none => False
  | _ => False

def isNilC : Operand → Bool
  | .const (.slice none 0 0) => true
  | _ => false

def argsT (tab : Tab) (e : Operand → AV) (c : Call) : List AV := (c.args.toList.zip c.argTypes.toList).map fun p => evT tab e p.2 p.1

/-- Operations that call, or make memory that is not a box. -/
def neff (P : Program) (tab : Tab) (o : Oper) (e : Operand → AV) (tips : Tips) (U : Nat → Prop) (K : AV → Tips → (Nat → Prop) → Prop) : Prop :=
  match o.op with
  | .call { callee := .builtin .append, args, argTypes } => match args.toList, argTypes.toList with
    | [s, x], [t, tx] => appK tab t tx (evT tab e t s) (evT tab e tx x) o.dst tips U K
    | _, _ => False
  | .buildSlice t n parts => litK tab t n e parts.toList o.dst tips U K
  | .call { callee := .value f, args, argTypes } => args.size = argTypes.size ∧ callK P (e f) (argsT tab e { callee := .value f, args, argTypes }) o.dst tips U K
  | .binOp .eql t x y _ => isNilC y = true ∧ isNilC x = false ∧ (match tab t with | some { td := .slice _, .. } => nilK (e x) false tips U K | _ => False)
  | .binOp .neq t x y _ => isNilC y = true ∧ isNilC x = false ∧ (match tab t with | some { td := .slice _, .. } => nilK (e x) true tips U K | _ => False)
  | _ => False

/-- The kinds of operations: those that compute or read; those that call or make; those that turn boxes. -/
inductive Cls where
  | d | n | b
  deriving DecidableEq

def cls (o : Oper) : Cls :=
  match o.op with
  | .call { callee := .builtin .append, .. } => .n
  | .call { callee := .builtin _, .. } => .d
  | .call _ => .n
  | .buildSlice .. => .n
  | .binOp .eql _ _ y _ => if isNilC y then .n else .d
  | .binOp .neq _ _ y _ => if isNilC y then .n else .d
  | .alloc _ | .box .. | .store .. | .makeSlice .. => .b
  | _ => .d

end Go.Ax
