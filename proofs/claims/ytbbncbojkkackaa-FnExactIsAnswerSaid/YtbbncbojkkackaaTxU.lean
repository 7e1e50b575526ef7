/- The data of the program: types, expressions, core expressions and what is built of them, as trees and lists. -/
import Derived.Test.YtbbncbojkkackaaTxA
set_option linter.unusedVariables false
namespace Go.Tx
open Go.Ax

inductive Ty where
  | mk (kind : Int) (args : List Ty)
def Ty.kind : Ty → Int | .mk k _ => k
def Ty.args : Ty → List Ty | .mk _ a => a
def Ty.eta (t : Ty) : Ty := .mk t.kind t.args
@[simp] theorem Ty.eta_eq (t : Ty) : t.eta = t := by cases t; rfl

inductive Ex where
  | mk (kind : Int) (name : ByteArray) (n : Int) (ty : Ty) (args : List Ex)
def Ex.kind : Ex → Int | .mk k _ _ _ _ => k
def Ex.name : Ex → ByteArray | .mk _ s _ _ _ => s
def Ex.n : Ex → Int | .mk _ _ n _ _ => n
def Ex.ty : Ex → Ty | .mk _ _ _ t _ => t
def Ex.args : Ex → List Ex | .mk _ _ _ _ a => a
def Ex.eta (e : Ex) : Ex := .mk e.kind e.name e.n e.ty.eta e.args
@[simp] theorem Ex.eta_eq (e : Ex) : e.eta = e := by cases e; simp [Ex.eta, Ex.kind, Ex.name, Ex.n, Ex.ty, Ex.args]

inductive Co where
  | mk (kind : Int) (name : ByteArray) (n : Int) (fr ty : Ty) (args : List Co) (env : List (ByteArray × Co))
def Co.kind : Co → Int | .mk k _ _ _ _ _ _ => k
def Co.name : Co → ByteArray | .mk _ s _ _ _ _ _ => s
def Co.n : Co → Int | .mk _ _ n _ _ _ _ => n
def Co.fr : Co → Ty | .mk _ _ _ f _ _ _ => f
def Co.ty : Co → Ty | .mk _ _ _ _ t _ _ => t
def Co.args : Co → List Co | .mk _ _ _ _ _ a _ => a
def Co.env : Co → List (ByteArray × Co) | .mk _ _ _ _ _ _ e => e
def Co.eta (e : Co) : Co := .mk e.kind e.name e.n e.fr.eta e.ty.eta e.args e.env
@[simp] theorem Co.eta_eq (e : Co) : e.eta = e := by cases e; simp [Co.eta, Co.kind, Co.name, Co.n, Co.fr, Co.ty, Co.args, Co.env]

abbrev Bi := ByteArray × Co
def Bi.eta (b : Bi) : Bi := (b.1, b.2.eta)
@[simp] theorem Bi.eta_eq (b : Bi) : Bi.eta b = b := by simp [Bi.eta]

structure Tg where
  name : ByteArray
  ty : Ty
def Tg.eta (t : Tg) : Tg := ⟨t.name, t.ty.eta⟩
@[simp] theorem Tg.eta_eq (t : Tg) : t.eta = t := by simp [Tg.eta]
structure Ed where
  ex : Ex
  path : List Int
def Ed.eta (t : Ed) : Ed := ⟨t.ex.eta, t.path⟩
@[simp] theorem Ed.eta_eq (t : Ed) : t.eta = t := by simp [Ed.eta]
structure Ac where
  kind : Int
  name : ByteArray
  n : Int
  ty : Ty
def Ac.eta (t : Ac) : Ac := ⟨t.kind, t.name, t.n, t.ty.eta⟩
@[simp] theorem Ac.eta_eq (t : Ac) : t.eta = t := by simp [Ac.eta]
structure Pl where
  ctx : List Tg
  ana : Bool
  ty : Ty
def Pl.eta (t : Pl) : Pl := ⟨t.ctx, t.ana, t.ty.eta⟩
@[simp] theorem Pl.eta_eq (t : Pl) : t.eta = t := by simp [Pl.eta]
structure Hi where
  n : Int
  mark : Bool
  path : List Int
  place : Pl
def Hi.eta (t : Hi) : Hi := ⟨t.n, t.mark, t.path, t.place.eta⟩
@[simp] theorem Hi.eta_eq (t : Hi) : t.eta = t := by simp [Hi.eta]
structure Hc where
  n : Int
  ctx : List Tg
def Hc.eta (t : Hc) : Hc := ⟨t.n, t.ctx⟩
@[simp] theorem Hc.eta_eq (t : Hc) : t.eta = t := by simp [Hc.eta]
structure Cl where
  n : Int
  mark : Bool
  env : List Bi
def Cl.eta (t : Cl) : Cl := ⟨t.n, t.mark, t.env⟩
@[simp] theorem Cl.eta_eq (t : Cl) : t.eta = t := by simp [Cl.eta]
structure Hy where
  past : List Ed
  now : Ed
  next : List Ed
def Hy.eta (t : Hy) : Hy := ⟨t.past, t.now.eta, t.next⟩
@[simp] theorem Hy.eta_eq (t : Hy) : t.eta = t := by simp [Hy.eta]
structure Rs where
  status : Int
  value : Co
  steps : Int
def Rs.eta (t : Rs) : Rs := ⟨t.status, t.value.eta, t.steps⟩
@[simp] theorem Rs.eta_eq (t : Rs) : t.eta = t := by simp [Rs.eta]

def Dd : Nat → Type
  | 0 => Int
  | 1 => ByteArray
  | 2 => Int
  | 3 => Ty
  | 4 => Ex
  | 5 => Co
  | 6 => Bi
  | 7 => Tg
  | 8 => List Int
  | 9 => Ed
  | 10 => Ac
  | 11 => Hi
  | 12 => Hc
  | 13 => Cl
  | 14 => Pl
  | 15 => Hy
  | 16 => Rs
  | _ => Unit

def szd : Nat → Nat
  | 0 => 1 | 1 => 1 | 2 => 1 | 3 => 2 | 4 => 6 | 5 => 9 | 6 => 10 | 7 => 3 | 8 => 1 | 9 => 7 | 10 => 5 | 11 => 7 | 12 => 2 | 13 => 3 | 14 => 4 | 15 => 9 | 16 => 11
  | _ => 0

def tI (n : Int) : TV Dd := .int .i64 n
def lTy (xs : List Ty) : TV Dd := .sl 3 xs
def lEx (xs : List Ex) : TV Dd := .sl 4 xs
def lCo (xs : List Co) : TV Dd := .sl 5 xs
def lBi (xs : List Bi) : TV Dd := .sl 6 xs
def lTg (xs : List Tg) : TV Dd := .sl 7 xs
def lIn (xs : List Int) : TV Dd := .sl 0 xs
def lEd (xs : List Ed) : TV Dd := .sl 9 xs

def encTy (t : Ty) : List (TV Dd) := [.int .i64 t.kind, lTy t.args]
def encEx (e : Ex) : List (TV Dd) := [.int .i64 e.kind, .str e.name, .int .i64 e.n, .int .i64 e.ty.kind, lTy e.ty.args, lEx e.args]
def encCo (e : Co) : List (TV Dd) := [.int .i64 e.kind, .str e.name, .int .i64 e.n, .int .i64 e.fr.kind, lTy e.fr.args, .int .i64 e.ty.kind, lTy e.ty.args, lCo e.args, lBi e.env]
def encEd (e : Ed) : List (TV Dd) := [.int .i64 e.ex.kind, .str e.ex.name, .int .i64 e.ex.n, .int .i64 e.ex.ty.kind, lTy e.ex.ty.args, lEx e.ex.args, lIn e.path]
def encPl (p : Pl) : List (TV Dd) := [lTg p.ctx, .bool p.ana, .int .i64 p.ty.kind, lTy p.ty.args]

def encd : (c : Nat) → Dd c → List (TV Dd)
  | 0, n => [.int .i64 n]
  | 1, s => [.str s]
  | 2, n => [.int .u8 n]
  | 3, t => encTy t
  | 4, e => encEx e
  | 5, e => encCo e
  | 6, b => [.str b.1, .int .i64 b.2.kind, .str b.2.name, .int .i64 b.2.n, .int .i64 b.2.fr.kind, lTy b.2.fr.args, .int .i64 b.2.ty.kind, lTy b.2.ty.args, lCo b.2.args, lBi b.2.env]
  | 7, t => [.str t.name, .int .i64 t.ty.kind, lTy t.ty.args]
  | 8, xs => [lIn xs]
  | 9, e => encEd e
  | 10, a => [.int .i64 a.kind, .str a.name, .int .i64 a.n, .int .i64 a.ty.kind, lTy a.ty.args]
  | 11, h => [.int .i64 h.n, .bool h.mark, lIn h.path, lTg h.place.ctx, .bool h.place.ana, .int .i64 h.place.ty.kind, lTy h.place.ty.args]
  | 12, h => [.int .i64 h.n, lTg h.ctx]
  | 13, h => [.int .i64 h.n, .bool h.mark, lBi h.env]
  | 14, p => encPl p
  | 15, h => [lEd h.past, .int .i64 h.now.ex.kind, .str h.now.ex.name, .int .i64 h.now.ex.n, .int .i64 h.now.ex.ty.kind, lTy h.now.ex.ty.args, lEx h.now.ex.args, lIn h.now.path, lEd h.next]
  | 16, r => [.int .i64 r.status, .int .i64 r.value.kind, .str r.value.name, .int .i64 r.value.n, .int .i64 r.value.fr.kind, lTy r.value.fr.args, .int .i64 r.value.ty.kind, lTy r.value.ty.args, lCo r.value.args, lBi r.value.env, .int .i64 r.steps]
  | _, _ => []

def gI : TV Dd → Option Int
  | .int .i64 n => some n
  | _ => none
def gS : TV Dd → Option ByteArray
  | .str s => some s
  | _ => none
def gB : TV Dd → Option Bool
  | .bool s => some s
  | _ => none
def gL (c : Nat) : TV Dd → Option (List (Dd c))
  | .sl c' xs => castL c' c xs
  | _ => none

def decTy : List (TV Dd) → Option Ty
  | [a, b] => (gI a).bind fun a => (gL 3 b).bind fun b => some (.mk a b)
  | _ => none
def decEx : List (TV Dd) → Option Ex
  | [a, b, c, d, e, f] => (gI a).bind fun a => (gS b).bind fun b => (gI c).bind fun c => (decTy [d, e]).bind fun t => (gL 4 f).bind fun f => some (.mk a b c t f)
  | _ => none
def decCo : List (TV Dd) → Option Co
  | [a, b, c, d, e, f, g, h, i] => (gI a).bind fun a => (gS b).bind fun b => (gI c).bind fun c => (decTy [d, e]).bind fun t => (decTy [f, g]).bind fun u => (gL 5 h).bind fun h => (gL 6 i).bind fun i => some (.mk a b c t u h i)
  | _ => none
def decPl : List (TV Dd) → Option Pl
  | [a, b, c, d] => (gL 7 a).bind fun a => (gB b).bind fun b => (decTy [c, d]).bind fun t => some ⟨a, b, t⟩
  | _ => none
def decEd : List (TV Dd) → Option Ed
  | [a, b, c, d, e, f, g] => (decEx [a, b, c, d, e, f]).bind fun x => (gL 0 g).bind fun g => some ⟨x, g⟩
  | _ => none

def decI : List (TV Dd) → Option Int
  | [x] => gI x
  | _ => none
def decSt : List (TV Dd) → Option ByteArray
  | [x] => gS x
  | _ => none
def decBy : List (TV Dd) → Option Int
  | [.int .u8 n] => some n
  | _ => none
def decLI : List (TV Dd) → Option (List Int)
  | [x] => gL 0 x
  | _ => none
def decBi : List (TV Dd) → Option Bi
  | a :: l => (gS a).bind fun a => (decCo l).bind fun c => some (a, c)
  | _ => none
def decTg : List (TV Dd) → Option Tg
  | a :: l => (gS a).bind fun a => (decTy l).bind fun c => some ⟨a, c⟩
  | _ => none
def decAc : List (TV Dd) → Option Ac
  | [a, b, c, d, e] => (gI a).bind fun a => (gS b).bind fun b => (gI c).bind fun c => (decTy [d, e]).bind fun t => some ⟨a, b, c, t⟩
  | _ => none
def decHi : List (TV Dd) → Option Hi
  | a :: b :: c :: l => (gI a).bind fun a => (gB b).bind fun b => (gL 0 c).bind fun c => (decPl l).bind fun t => some ⟨a, b, c, t⟩
  | _ => none
def decHc : List (TV Dd) → Option Hc
  | [a, b] => (gI a).bind fun a => (gL 7 b).bind fun b => some ⟨a, b⟩
  | _ => none
def decCl : List (TV Dd) → Option Cl
  | [a, b, c] => (gI a).bind fun a => (gB b).bind fun b => (gL 6 c).bind fun c => some ⟨a, b, c⟩
  | _ => none
def decHy : List (TV Dd) → Option Hy
  | [a, b, c, d, e, f, g, h, i] => (gL 9 a).bind fun a => (decEd [b, c, d, e, f, g, h]).bind fun n => (gL 9 i).bind fun i => some ⟨a, n, i⟩
  | _ => none
def decRs : List (TV Dd) → Option Rs
  | [a, b, c, d, e, f, g, h, i, j, k] => (gI a).bind fun a => (decCo [b, c, d, e, f, g, h, i, j]).bind fun v => (gI k).bind fun k => some ⟨a, v, k⟩
  | _ => none

def decd : (c : Nat) → List (TV Dd) → Option (Dd c)
  | 0, l => decI l
  | 1, l => decSt l
  | 2, l => decBy l
  | 3, l => decTy l
  | 4, l => decEx l
  | 5, l => decCo l
  | 6, l => decBi l
  | 7, l => decTg l
  | 8, l => decLI l
  | 9, l => decEd l
  | 10, l => decAc l
  | 11, l => decHi l
  | 12, l => decHc l
  | 13, l => decCl l
  | 14, l => decPl l
  | 15, l => decHy l
  | 16, l => decRs l
  | _ + 17, _ => none

mutual
def Ty.pv : Ty → PV
  | .mk k a => .agg [.lit (.int .i64 k), .sl 2 (Ty.pvL a)]
def Ty.pvL : List Ty → List PV
  | [] => []
  | t :: r => Ty.pv t :: Ty.pvL r
end
mutual
def Ex.pv : Ex → PV
  | .mk k nm n (.mk tk ta) xs => .agg [.lit (.int .i64 k), .lit (.string nm), .lit (.int .i64 n), .lit (.int .i64 tk), .sl 2 (Ty.pvL ta), .sl 6 (Ex.pvL xs)]
def Ex.pvL : List Ex → List PV
  | [] => []
  | t :: r => Ex.pv t :: Ex.pvL r
end
mutual
def Co.pv : Co → PV
  | .mk k nm n (.mk kt ct) (.mk ku cu) xs es => .agg [.lit (.int .i64 k), .lit (.string nm), .lit (.int .i64 n), .lit (.int .i64 kt), .sl 2 (Ty.pvL ct), .lit (.int .i64 ku), .sl 2 (Ty.pvL cu), .sl 9 (Co.pvL xs), .sl 10 (Co.pvE es)]
def Co.pvL : List Co → List PV
  | [] => []
  | t :: r => Co.pv t :: Co.pvL r
def Co.pvE : List (ByteArray × Co) → List PV
  | [] => []
  | b :: r => Co.pvP b :: Co.pvE r
def Co.pvP : ByteArray × Co → PV
  | (n, c) => .agg (.lit (.string n) :: (Co.pv c).cells)
end
def inPv (xs : List Int) : PV := .sl 1 (xs.map fun n => .lit (.int .i64 n))
def Tg.pv (t : Tg) : PV := .agg (.lit (.string t.name) :: t.ty.pv.cells)
def Ed.pv (t : Ed) : PV := .agg (t.ex.pv.cells ++ [inPv t.path])
def Pl.pv (t : Pl) : PV := .agg (.sl 3 (t.ctx.map Tg.pv) :: .lit (.bool t.ana) :: t.ty.pv.cells)

def pvd : (c : Nat) → Dd c → PV
  | 0, n => .lit (.int .i64 n)
  | 1, s => .lit (.string s)
  | 2, n => .lit (.int .u8 n)
  | 3, t => Ty.pv t
  | 4, t => Ex.pv t
  | 5, t => Co.pv t
  | 6, b => Co.pvP b
  | 7, t => Tg.pv t
  | 8, xs => inPv xs
  | 9, e => Ed.pv e
  | 10, a => .agg (.lit (.int .i64 a.kind) :: .lit (.string a.name) :: .lit (.int .i64 a.n) :: a.ty.pv.cells)
  | 11, h => .agg (.lit (.int .i64 h.n) :: .lit (.bool h.mark) :: inPv h.path :: h.place.pv.cells)
  | 12, h => .agg [.lit (.int .i64 h.n), .sl 3 (h.ctx.map Tg.pv)]
  | 13, h => .agg [.lit (.int .i64 h.n), .lit (.bool h.mark), .sl 10 (h.env.map Co.pvP)]
  | 14, p => Pl.pv p
  | 15, h => .agg (.sl 7 (h.past.map Ed.pv) :: (h.now.pv.cells ++ [.sl 7 (h.next.map Ed.pv)]))
  | 16, r => .agg (.lit (.int .i64 r.status) :: (r.value.pv.cells ++ [.lit (.int .i64 r.steps)]))
  | _, _ => .agg []

def dfltd : (c : Nat) → Dd c
  | 0 => (0 : Int)
  | 1 => (⟨#[]⟩ : ByteArray)
  | 2 => (0 : Int)
  | 3 => Ty.mk 0 []
  | 4 => Ex.mk 0 ⟨#[]⟩ 0 (Ty.mk 0 []) []
  | 5 => Co.mk 0 ⟨#[]⟩ 0 (Ty.mk 0 []) (Ty.mk 0 []) [] []
  | 6 => ((⟨#[]⟩ : ByteArray), Co.mk 0 ⟨#[]⟩ 0 (Ty.mk 0 []) (Ty.mk 0 []) [] [])
  | 7 => (⟨⟨#[]⟩, .mk 0 []⟩ : Tg)
  | 8 => ([] : List Int)
  | 9 => (⟨Ex.mk 0 ⟨#[]⟩ 0 (Ty.mk 0 []) [], []⟩ : Ed)
  | 10 => (⟨0, ⟨#[]⟩, 0, .mk 0 []⟩ : Ac)
  | 11 => (⟨0, false, [], ⟨[], false, .mk 0 []⟩⟩ : Hi)
  | 12 => (⟨0, []⟩ : Hc)
  | 13 => (⟨0, false, []⟩ : Cl)
  | 14 => (⟨[], false, .mk 0 []⟩ : Pl)
  | 15 => (⟨[], ⟨Ex.mk 0 ⟨#[]⟩ 0 (Ty.mk 0 []) [], []⟩, []⟩ : Hy)
  | 16 => (⟨0, Co.mk 0 ⟨#[]⟩ 0 (Ty.mk 0 []) (Ty.mk 0 []) [] [], 0⟩ : Rs)
  | _ + 17 => ()

/-- Which of them are structs. -/
def std : Nat → Bool
  | 0 => false | 1 => false | 2 => false | 8 => false
  | _ => true

/-- The universe of this program's data. -/
def UU : Uni where
  D := Dd
  sz := szd
  pv := pvd
  enc := encd
  dec := decd
  dflt := dfltd
  st := std

def w64 (x : Int) : Int := IntKind.i64.wrap x
end Go.Tx
