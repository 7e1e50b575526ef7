import Derived.Test.YtbbncbojkkackaaTxT
import Derived.Test.YtbbncbojkkackaaProg
import Derived.KernelRfl
set_option linter.unusedVariables false
namespace Go.Proofs.Ytbbncbojkkackaa
open Go.Ax Go.Tx

def lSzType.s (n : Nat) (r_lSzType : Ty → Int → Option Int) (r_lSzTypeS : (List Ty) → Int → Option Int) (a : Ty) (left_ : Int) : Option Int :=
(r_lSzTypeS a.args left_).bind fun x1 =>
bif (decide (x1 < 0)) then some (-1)
else some x1
def lSzTypeS.l5s (n : Nat) (r_lSzType : Ty → Int → Option Int) (r_lSzTypeS : (List Ty) → Int → Option Int) (l5 : (List Ty) → Int → Int → Option Int) (a : List Ty) (left_ : Int) (i : Int) : Option Int :=
bif (decide (i < (a.length : Int))) then (nthT a i).bind fun x1 =>
(r_lSzType x1.eta left_).bind fun x2 =>
bif (decide (x2 < 0)) then some (-1)
else l5 a x2 (w64 (i + 1))
else some left_
def lSzTypeS.l5 (n : Nat) (r_lSzType : Ty → Int → Option Int) (r_lSzTypeS : (List Ty) → Int → Option Int) : Nat → (List Ty) → Int → Int → Option Int
  | 0, _, _, _ => none
  | m + 1, a, left_, i => lSzTypeS.l5s n r_lSzType r_lSzTypeS (lSzTypeS.l5 n r_lSzType r_lSzTypeS m) a left_ i
def lSzTypeS.s (n : Nat) (r_lSzType : Ty → Int → Option Int) (r_lSzTypeS : (List Ty) → Int → Option Int) (l5 : (List Ty) → Int → Int → Option Int) (a : List Ty) (left_ : Int) : Option Int :=
bif (decide ((w64 (left_ - (a.length : Int))) < 0)) then some (-1)
else l5 a (w64 (left_ - (a.length : Int))) 0
def lSzType.g : Nat → (Ty → Int → Option Int) × ((List Ty) → Int → Option Int)
  | 0 => (fun _ _ => none, fun _ _ => none)
  | n + 1 => (lSzType.s n (lSzType.g n).1 (lSzType.g n).2, lSzTypeS.s n (lSzType.g n).1 (lSzType.g n).2 (lSzTypeS.l5 n (lSzType.g n).1 (lSzType.g n).2 n))
def lSzType (n : Nat) : Ty → Int → Option Int := (lSzType.g n).1
def lSzTypeS (n : Nat) : (List Ty) → Int → Option Int := (lSzType.g n).2
def lSzCore.s (n : Nat) (r_lSzCore : Co → Int → Option Int) (r_lSzCoreS : (List Co) → Int → Option Int) (r_lSzCoreBindS : (List Bi) → Int → Option Int) (r_lSzCoreBind : Bi → Int → Option Int) (a : Co) (left_ : Int) : Option Int :=
bif (decide ((w64 (left_ - (a.name.size : Int))) < 0)) then some (-1)
else (lSzType n a.fr.eta (w64 (left_ - (a.name.size : Int)))).bind fun x1 =>
bif (decide (x1 < 0)) then some (-1)
else (lSzType n a.ty.eta x1).bind fun x2 =>
bif (decide (x2 < 0)) then some (-1)
else (r_lSzCoreS a.args x2).bind fun x3 =>
bif (decide (x3 < 0)) then some (-1)
else (r_lSzCoreBindS a.env x3).bind fun x4 =>
bif (decide (x4 < 0)) then some (-1)
else some x4
def lSzCoreS.l5s (n : Nat) (r_lSzCore : Co → Int → Option Int) (r_lSzCoreS : (List Co) → Int → Option Int) (r_lSzCoreBindS : (List Bi) → Int → Option Int) (r_lSzCoreBind : Bi → Int → Option Int) (l5 : (List Co) → Int → Int → Option Int) (a : List Co) (left_ : Int) (i : Int) : Option Int :=
bif (decide (i < (a.length : Int))) then (nthT a i).bind fun x1 =>
(r_lSzCore x1.eta left_).bind fun x2 =>
bif (decide (x2 < 0)) then some (-1)
else l5 a x2 (w64 (i + 1))
else some left_
def lSzCoreS.l5 (n : Nat) (r_lSzCore : Co → Int → Option Int) (r_lSzCoreS : (List Co) → Int → Option Int) (r_lSzCoreBindS : (List Bi) → Int → Option Int) (r_lSzCoreBind : Bi → Int → Option Int) : Nat → (List Co) → Int → Int → Option Int
  | 0, _, _, _ => none
  | m + 1, a, left_, i => lSzCoreS.l5s n r_lSzCore r_lSzCoreS r_lSzCoreBindS r_lSzCoreBind (lSzCoreS.l5 n r_lSzCore r_lSzCoreS r_lSzCoreBindS r_lSzCoreBind m) a left_ i
def lSzCoreS.s (n : Nat) (r_lSzCore : Co → Int → Option Int) (r_lSzCoreS : (List Co) → Int → Option Int) (r_lSzCoreBindS : (List Bi) → Int → Option Int) (r_lSzCoreBind : Bi → Int → Option Int) (l5 : (List Co) → Int → Int → Option Int) (a : List Co) (left_ : Int) : Option Int :=
bif (decide ((w64 (left_ - (a.length : Int))) < 0)) then some (-1)
else l5 a (w64 (left_ - (a.length : Int))) 0
def lSzCoreBindS.l5s (n : Nat) (r_lSzCore : Co → Int → Option Int) (r_lSzCoreS : (List Co) → Int → Option Int) (r_lSzCoreBindS : (List Bi) → Int → Option Int) (r_lSzCoreBind : Bi → Int → Option Int) (l5 : (List Bi) → Int → Int → Option Int) (a : List Bi) (left_ : Int) (i : Int) : Option Int :=
bif (decide (i < (a.length : Int))) then (nthT a i).bind fun x1 =>
(r_lSzCoreBind (Bi.eta x1) left_).bind fun x2 =>
bif (decide (x2 < 0)) then some (-1)
else l5 a x2 (w64 (i + 1))
else some left_
def lSzCoreBindS.l5 (n : Nat) (r_lSzCore : Co → Int → Option Int) (r_lSzCoreS : (List Co) → Int → Option Int) (r_lSzCoreBindS : (List Bi) → Int → Option Int) (r_lSzCoreBind : Bi → Int → Option Int) : Nat → (List Bi) → Int → Int → Option Int
  | 0, _, _, _ => none
  | m + 1, a, left_, i => lSzCoreBindS.l5s n r_lSzCore r_lSzCoreS r_lSzCoreBindS r_lSzCoreBind (lSzCoreBindS.l5 n r_lSzCore r_lSzCoreS r_lSzCoreBindS r_lSzCoreBind m) a left_ i
def lSzCoreBindS.s (n : Nat) (r_lSzCore : Co → Int → Option Int) (r_lSzCoreS : (List Co) → Int → Option Int) (r_lSzCoreBindS : (List Bi) → Int → Option Int) (r_lSzCoreBind : Bi → Int → Option Int) (l5 : (List Bi) → Int → Int → Option Int) (a : List Bi) (left_ : Int) : Option Int :=
bif (decide ((w64 (left_ - (a.length : Int))) < 0)) then some (-1)
else l5 a (w64 (left_ - (a.length : Int))) 0
def lSzCoreBind.s (n : Nat) (r_lSzCore : Co → Int → Option Int) (r_lSzCoreS : (List Co) → Int → Option Int) (r_lSzCoreBindS : (List Bi) → Int → Option Int) (r_lSzCoreBind : Bi → Int → Option Int) (a : Bi) (left_ : Int) : Option Int :=
bif (decide ((w64 (left_ - (a.1.size : Int))) < 0)) then some (-1)
else (r_lSzCore a.2.eta (w64 (left_ - (a.1.size : Int)))).bind fun x1 =>
bif (decide (x1 < 0)) then some (-1)
else some x1
def lSzCore.g : Nat → (Co → Int → Option Int) × ((List Co) → Int → Option Int) × ((List Bi) → Int → Option Int) × (Bi → Int → Option Int)
  | 0 => (fun _ _ => none, fun _ _ => none, fun _ _ => none, fun _ _ => none)
  | n + 1 => (lSzCore.s n (lSzCore.g n).1 (lSzCore.g n).2.1 (lSzCore.g n).2.2.1 (lSzCore.g n).2.2.2, lSzCoreS.s n (lSzCore.g n).1 (lSzCore.g n).2.1 (lSzCore.g n).2.2.1 (lSzCore.g n).2.2.2 (lSzCoreS.l5 n (lSzCore.g n).1 (lSzCore.g n).2.1 (lSzCore.g n).2.2.1 (lSzCore.g n).2.2.2 n), lSzCoreBindS.s n (lSzCore.g n).1 (lSzCore.g n).2.1 (lSzCore.g n).2.2.1 (lSzCore.g n).2.2.2 (lSzCoreBindS.l5 n (lSzCore.g n).1 (lSzCore.g n).2.1 (lSzCore.g n).2.2.1 (lSzCore.g n).2.2.2 n), lSzCoreBind.s n (lSzCore.g n).1 (lSzCore.g n).2.1 (lSzCore.g n).2.2.1 (lSzCore.g n).2.2.2)
def lSzCore (n : Nat) : Co → Int → Option Int := (lSzCore.g n).1
def lSzCoreS (n : Nat) : (List Co) → Int → Option Int := (lSzCore.g n).2.1
def lSzCoreBindS (n : Nat) : (List Bi) → Int → Option Int := (lSzCore.g n).2.2.1
def lSzCoreBind (n : Nat) : Bi → Int → Option Int := (lSzCore.g n).2.2.2
def lToType.s (n : Nat) (r_lToType : Ty → Option Ty) (r_lToTypeS : (List Ty) → Option (List Ty)) (a : Ty) : Option Ty :=
(r_lToTypeS a.args).bind fun x1 =>
some (Ty.mk a.kind x1)
def lToTypeS.l3s (n : Nat) (r_lToType : Ty → Option Ty) (r_lToTypeS : (List Ty) → Option (List Ty)) (l3 : (List Ty) → Int → Int → (List Ty) → Option (List Ty)) (a : List Ty) (out : Int) (i : Int) (b7 : List Ty) : Option (List Ty) :=
bif (decide (i < (a.length : Int))) then (nthT a i).bind fun x1 =>
(r_lToType x1.eta).bind fun x2 =>
(if inT i out.toNat then some i else none).bind fun x3 =>
bif inT x3 b7.length then l3 a out (w64 (i + 1)) (b7.set x3.toNat x2.eta)
else none
else bif Nat.beq b7.length out.toNat then some b7
else none
def lToTypeS.l3 (n : Nat) (r_lToType : Ty → Option Ty) (r_lToTypeS : (List Ty) → Option (List Ty)) : Nat → (List Ty) → Int → Int → (List Ty) → Option (List Ty)
  | 0, _, _, _, _ => none
  | m + 1, a, out, i, b7 => lToTypeS.l3s n r_lToType r_lToTypeS (lToTypeS.l3 n r_lToType r_lToTypeS m) a out i b7
def lToTypeS.s (n : Nat) (r_lToType : Ty → Option Ty) (r_lToTypeS : (List Ty) → Option (List Ty)) (l3 : (List Ty) → Int → Int → (List Ty) → Option (List Ty)) (a : List Ty) : Option (List Ty) :=
bif makeT (a.length : Int) 32 then l3 a (a.length : Int) 0 (List.replicate (a.length : Int).toNat (UU.dflt 3))
else none
def lToType.g : Nat → (Ty → Option Ty) × ((List Ty) → Option (List Ty))
  | 0 => (fun _ => none, fun _ => none)
  | n + 1 => (lToType.s n (lToType.g n).1 (lToType.g n).2, lToTypeS.s n (lToType.g n).1 (lToType.g n).2 (lToTypeS.l3 n (lToType.g n).1 (lToType.g n).2 n))
def lToType (n : Nat) : Ty → Option Ty := (lToType.g n).1
def lToTypeS (n : Nat) : (List Ty) → Option (List Ty) := (lToType.g n).2
def lToCore.s (n : Nat) (r_lToCore : Co → Option Co) (r_lToCoreS : (List Co) → Option (List Co)) (r_lToCoreBindS : (List Bi) → Option (List Bi)) (r_lToCoreBind : Bi → Option Bi) (a : Co) : Option Co :=
(lToType n a.fr.eta).bind fun x1 =>
(lToType n a.ty.eta).bind fun x2 =>
(r_lToCoreS a.args).bind fun x3 =>
(r_lToCoreBindS a.env).bind fun x4 =>
some (Co.mk a.kind a.name a.n x1.eta x2.eta x3 x4)
def lToCoreS.l3s (n : Nat) (r_lToCore : Co → Option Co) (r_lToCoreS : (List Co) → Option (List Co)) (r_lToCoreBindS : (List Bi) → Option (List Bi)) (r_lToCoreBind : Bi → Option Bi) (l3 : (List Co) → Int → Int → (List Co) → Option (List Co)) (a : List Co) (out : Int) (i : Int) (b7 : List Co) : Option (List Co) :=
bif (decide (i < (a.length : Int))) then (nthT a i).bind fun x1 =>
(r_lToCore x1.eta).bind fun x2 =>
(if inT i out.toNat then some i else none).bind fun x3 =>
bif inT x3 b7.length then l3 a out (w64 (i + 1)) (b7.set x3.toNat x2.eta)
else none
else bif Nat.beq b7.length out.toNat then some b7
else none
def lToCoreS.l3 (n : Nat) (r_lToCore : Co → Option Co) (r_lToCoreS : (List Co) → Option (List Co)) (r_lToCoreBindS : (List Bi) → Option (List Bi)) (r_lToCoreBind : Bi → Option Bi) : Nat → (List Co) → Int → Int → (List Co) → Option (List Co)
  | 0, _, _, _, _ => none
  | m + 1, a, out, i, b7 => lToCoreS.l3s n r_lToCore r_lToCoreS r_lToCoreBindS r_lToCoreBind (lToCoreS.l3 n r_lToCore r_lToCoreS r_lToCoreBindS r_lToCoreBind m) a out i b7
def lToCoreS.s (n : Nat) (r_lToCore : Co → Option Co) (r_lToCoreS : (List Co) → Option (List Co)) (r_lToCoreBindS : (List Bi) → Option (List Bi)) (r_lToCoreBind : Bi → Option Bi) (l3 : (List Co) → Int → Int → (List Co) → Option (List Co)) (a : List Co) : Option (List Co) :=
bif makeT (a.length : Int) 144 then l3 a (a.length : Int) 0 (List.replicate (a.length : Int).toNat (UU.dflt 5))
else none
def lToCoreBindS.l3s (n : Nat) (r_lToCore : Co → Option Co) (r_lToCoreS : (List Co) → Option (List Co)) (r_lToCoreBindS : (List Bi) → Option (List Bi)) (r_lToCoreBind : Bi → Option Bi) (l3 : (List Bi) → Int → Int → (List Bi) → Option (List Bi)) (a : List Bi) (out : Int) (i : Int) (b7 : List Bi) : Option (List Bi) :=
bif (decide (i < (a.length : Int))) then (nthT a i).bind fun x1 =>
(r_lToCoreBind (Bi.eta x1)).bind fun x2 =>
(if inT i out.toNat then some i else none).bind fun x3 =>
bif inT x3 b7.length then l3 a out (w64 (i + 1)) (b7.set x3.toNat (Bi.eta x2))
else none
else bif Nat.beq b7.length out.toNat then some b7
else none
def lToCoreBindS.l3 (n : Nat) (r_lToCore : Co → Option Co) (r_lToCoreS : (List Co) → Option (List Co)) (r_lToCoreBindS : (List Bi) → Option (List Bi)) (r_lToCoreBind : Bi → Option Bi) : Nat → (List Bi) → Int → Int → (List Bi) → Option (List Bi)
  | 0, _, _, _, _ => none
  | m + 1, a, out, i, b7 => lToCoreBindS.l3s n r_lToCore r_lToCoreS r_lToCoreBindS r_lToCoreBind (lToCoreBindS.l3 n r_lToCore r_lToCoreS r_lToCoreBindS r_lToCoreBind m) a out i b7
def lToCoreBindS.s (n : Nat) (r_lToCore : Co → Option Co) (r_lToCoreS : (List Co) → Option (List Co)) (r_lToCoreBindS : (List Bi) → Option (List Bi)) (r_lToCoreBind : Bi → Option Bi) (l3 : (List Bi) → Int → Int → (List Bi) → Option (List Bi)) (a : List Bi) : Option (List Bi) :=
bif makeT (a.length : Int) 160 then l3 a (a.length : Int) 0 (List.replicate (a.length : Int).toNat (UU.dflt 6))
else none
def lToCoreBind.s (n : Nat) (r_lToCore : Co → Option Co) (r_lToCoreS : (List Co) → Option (List Co)) (r_lToCoreBindS : (List Bi) → Option (List Bi)) (r_lToCoreBind : Bi → Option Bi) (a : Bi) : Option Bi :=
(r_lToCore a.2.eta).bind fun x1 =>
some (Prod.mk a.1 x1.eta)
def lToCore.g : Nat → (Co → Option Co) × ((List Co) → Option (List Co)) × ((List Bi) → Option (List Bi)) × (Bi → Option Bi)
  | 0 => (fun _ => none, fun _ => none, fun _ => none, fun _ => none)
  | n + 1 => (lToCore.s n (lToCore.g n).1 (lToCore.g n).2.1 (lToCore.g n).2.2.1 (lToCore.g n).2.2.2, lToCoreS.s n (lToCore.g n).1 (lToCore.g n).2.1 (lToCore.g n).2.2.1 (lToCore.g n).2.2.2 (lToCoreS.l3 n (lToCore.g n).1 (lToCore.g n).2.1 (lToCore.g n).2.2.1 (lToCore.g n).2.2.2 n), lToCoreBindS.s n (lToCore.g n).1 (lToCore.g n).2.1 (lToCore.g n).2.2.1 (lToCore.g n).2.2.2 (lToCoreBindS.l3 n (lToCore.g n).1 (lToCore.g n).2.1 (lToCore.g n).2.2.1 (lToCore.g n).2.2.2 n), lToCoreBind.s n (lToCore.g n).1 (lToCore.g n).2.1 (lToCore.g n).2.2.1 (lToCore.g n).2.2.2)
def lToCore (n : Nat) : Co → Option Co := (lToCore.g n).1
def lToCoreS (n : Nat) : (List Co) → Option (List Co) := (lToCore.g n).2.1
def lToCoreBindS (n : Nat) : (List Bi) → Option (List Bi) := (lToCore.g n).2.2.1
def lToCoreBind (n : Nat) : Bi → Option Bi := (lToCore.g n).2.2.2
def sSizeOfCore.l3s (n : Nat) (r_sSizeOfCore : Co → Option Int) (l3 : Int → Int → Co → Option Int) (l7 : Int → Int → Co → Option Int) (n_ : Int) (k : Int) (d : Co) : Option Int :=
bif (decide (k < (d.args.length : Int))) then (nthT d.args k).bind fun x1 =>
(r_sSizeOfCore x1.eta).bind fun x2 =>
l3 (w64 (n_ + x2)) (w64 (k + 1)) d.eta
else l7 n_ 0 d.eta
def sSizeOfCore.l7s (n : Nat) (r_sSizeOfCore : Co → Option Int) (l3 : Int → Int → Co → Option Int) (l7 : Int → Int → Co → Option Int) (n_ : Int) (k : Int) (d : Co) : Option Int :=
bif (decide (k < (d.env.length : Int))) then (nthT d.env k).bind fun x1 =>
(r_sSizeOfCore x1.2.eta).bind fun x2 =>
l7 (w64 (n_ + x2)) (w64 (k + 1)) d.eta
else some n_
def sSizeOfCore.ls (n : Nat) (r_sSizeOfCore : Co → Option Int) : Nat → (Int → Int → Co → Option Int) × (Int → Int → Co → Option Int)
  | 0 => (fun _ _ _ => none, fun _ _ _ => none)
  | m + 1 => (sSizeOfCore.l3s n r_sSizeOfCore (sSizeOfCore.ls n r_sSizeOfCore m).1 (sSizeOfCore.ls n r_sSizeOfCore m).2, sSizeOfCore.l7s n r_sSizeOfCore (sSizeOfCore.ls n r_sSizeOfCore m).1 (sSizeOfCore.ls n r_sSizeOfCore m).2)
def sSizeOfCore.l3 (n : Nat) (r_sSizeOfCore : Co → Option Int) (m : Nat) : Int → Int → Co → Option Int := (sSizeOfCore.ls n r_sSizeOfCore m).1
def sSizeOfCore.l7 (n : Nat) (r_sSizeOfCore : Co → Option Int) (m : Nat) : Int → Int → Co → Option Int := (sSizeOfCore.ls n r_sSizeOfCore m).2
def sSizeOfCore.s (n : Nat) (r_sSizeOfCore : Co → Option Int) (l3 : Int → Int → Co → Option Int) (l7 : Int → Int → Co → Option Int) (d : Co) : Option Int :=
l3 1 0 d.eta
def sSizeOfCore : Nat → Co → Option Int
  | 0, _ => none
  | n + 1, d => sSizeOfCore.s n (sSizeOfCore n) (sSizeOfCore.l3 n (sSizeOfCore n) n) (sSizeOfCore.l7 n (sSizeOfCore n) n) d
def iSizeOfCore.l3s (n : Nat) (r_iSizeOfCore : Co → Option Int) (l3 : Int → (List Co) → Int → Int → Co → Option Int) (l8 : Int → (List Bi) → Int → Int → Option Int) (n_ : Int) (t9 : List Co) (t10 : Int) (t11 : Int) (d : Co) : Option Int :=
bif (decide (t11 < t10)) then (nthT t9 t11).bind fun x1 =>
(r_iSizeOfCore x1.eta).bind fun x2 =>
l3 (w64 (n_ + x2)) t9 t10 (w64 (t11 + 1)) d.eta
else l8 n_ d.env (d.env.length : Int) 0
def iSizeOfCore.l8s (n : Nat) (r_iSizeOfCore : Co → Option Int) (l3 : Int → (List Co) → Int → Int → Co → Option Int) (l8 : Int → (List Bi) → Int → Int → Option Int) (n_ : Int) (t21 : List Bi) (t22 : Int) (t23 : Int) : Option Int :=
bif (decide (t23 < t22)) then (nthT t21 t23).bind fun x1 =>
(r_iSizeOfCore x1.2.eta).bind fun x2 =>
l8 (w64 (n_ + x2)) t21 t22 (w64 (t23 + 1))
else some n_
def iSizeOfCore.ls (n : Nat) (r_iSizeOfCore : Co → Option Int) : Nat → (Int → (List Co) → Int → Int → Co → Option Int) × (Int → (List Bi) → Int → Int → Option Int)
  | 0 => (fun _ _ _ _ _ => none, fun _ _ _ _ => none)
  | m + 1 => (iSizeOfCore.l3s n r_iSizeOfCore (iSizeOfCore.ls n r_iSizeOfCore m).1 (iSizeOfCore.ls n r_iSizeOfCore m).2, iSizeOfCore.l8s n r_iSizeOfCore (iSizeOfCore.ls n r_iSizeOfCore m).1 (iSizeOfCore.ls n r_iSizeOfCore m).2)
def iSizeOfCore.l3 (n : Nat) (r_iSizeOfCore : Co → Option Int) (m : Nat) : Int → (List Co) → Int → Int → Co → Option Int := (iSizeOfCore.ls n r_iSizeOfCore m).1
def iSizeOfCore.l8 (n : Nat) (r_iSizeOfCore : Co → Option Int) (m : Nat) : Int → (List Bi) → Int → Int → Option Int := (iSizeOfCore.ls n r_iSizeOfCore m).2
def iSizeOfCore.s (n : Nat) (r_iSizeOfCore : Co → Option Int) (l3 : Int → (List Co) → Int → Int → Co → Option Int) (l8 : Int → (List Bi) → Int → Int → Option Int) (d : Co) : Option Int :=
l3 1 d.args (d.args.length : Int) 0 d.eta
def iSizeOfCore : Nat → Co → Option Int
  | 0, _ => none
  | n + 1, d => iSizeOfCore.s n (iSizeOfCore n) (iSizeOfCore.l3 n (iSizeOfCore n) n) (iSizeOfCore.l8 n (iSizeOfCore n) n) d
def lEqType.s (n : Nat) (r_lEqType : Ty → Ty → Option Bool) (r_lEqTypeS : (List Ty) → (List Ty) → Option Bool) (a : Ty) (b : Ty) : Option Bool :=
bif (a.kind != b.kind) then some false
else (r_lEqTypeS a.args b.args).bind fun x1 =>
bif (!x1) then some false
else some true
def lEqTypeS.l4s (n : Nat) (r_lEqType : Ty → Ty → Option Bool) (r_lEqTypeS : (List Ty) → (List Ty) → Option Bool) (l4 : (List Ty) → (List Ty) → Int → Option Bool) (a : List Ty) (b : List Ty) (i : Int) : Option Bool :=
bif (decide (i < (a.length : Int))) then (nthT a i).bind fun x1 =>
(nthT b i).bind fun x2 =>
(r_lEqType x1.eta x2.eta).bind fun x3 =>
bif (!x3) then some false
else l4 a b (w64 (i + 1))
else some true
def lEqTypeS.l4 (n : Nat) (r_lEqType : Ty → Ty → Option Bool) (r_lEqTypeS : (List Ty) → (List Ty) → Option Bool) : Nat → (List Ty) → (List Ty) → Int → Option Bool
  | 0, _, _, _ => none
  | m + 1, a, b, i => lEqTypeS.l4s n r_lEqType r_lEqTypeS (lEqTypeS.l4 n r_lEqType r_lEqTypeS m) a b i
def lEqTypeS.s (n : Nat) (r_lEqType : Ty → Ty → Option Bool) (r_lEqTypeS : (List Ty) → (List Ty) → Option Bool) (l4 : (List Ty) → (List Ty) → Int → Option Bool) (a : List Ty) (b : List Ty) : Option Bool :=
bif ((a.length : Int) != (b.length : Int)) then some false
else l4 a b 0
def lEqType.g : Nat → (Ty → Ty → Option Bool) × ((List Ty) → (List Ty) → Option Bool)
  | 0 => (fun _ _ => none, fun _ _ => none)
  | n + 1 => (lEqType.s n (lEqType.g n).1 (lEqType.g n).2, lEqTypeS.s n (lEqType.g n).1 (lEqType.g n).2 (lEqTypeS.l4 n (lEqType.g n).1 (lEqType.g n).2 n))
def lEqType (n : Nat) : Ty → Ty → Option Bool := (lEqType.g n).1
def lEqTypeS (n : Nat) : (List Ty) → (List Ty) → Option Bool := (lEqType.g n).2
def lEqCore.s (n : Nat) (r_lEqCore : Co → Co → Option Bool) (r_lEqCoreS : (List Co) → (List Co) → Option Bool) (r_lEqCoreBindS : (List Bi) → (List Bi) → Option Bool) (r_lEqCoreBind : Bi → Bi → Option Bool) (a : Co) (b : Co) : Option Bool :=
bif (a.kind != b.kind) then some false
else bif (!(seqT a.name b.name)) then some false
else bif (a.n != b.n) then some false
else (lEqType n a.fr.eta b.fr.eta).bind fun x1 =>
bif (!x1) then some false
else (lEqType n a.ty.eta b.ty.eta).bind fun x2 =>
bif (!x2) then some false
else (r_lEqCoreS a.args b.args).bind fun x3 =>
bif (!x3) then some false
else (r_lEqCoreBindS a.env b.env).bind fun x4 =>
bif (!x4) then some false
else some true
def lEqCoreS.l4s (n : Nat) (r_lEqCore : Co → Co → Option Bool) (r_lEqCoreS : (List Co) → (List Co) → Option Bool) (r_lEqCoreBindS : (List Bi) → (List Bi) → Option Bool) (r_lEqCoreBind : Bi → Bi → Option Bool) (l4 : (List Co) → (List Co) → Int → Option Bool) (a : List Co) (b : List Co) (i : Int) : Option Bool :=
bif (decide (i < (a.length : Int))) then (nthT a i).bind fun x1 =>
(nthT b i).bind fun x2 =>
(r_lEqCore x1.eta x2.eta).bind fun x3 =>
bif (!x3) then some false
else l4 a b (w64 (i + 1))
else some true
def lEqCoreS.l4 (n : Nat) (r_lEqCore : Co → Co → Option Bool) (r_lEqCoreS : (List Co) → (List Co) → Option Bool) (r_lEqCoreBindS : (List Bi) → (List Bi) → Option Bool) (r_lEqCoreBind : Bi → Bi → Option Bool) : Nat → (List Co) → (List Co) → Int → Option Bool
  | 0, _, _, _ => none
  | m + 1, a, b, i => lEqCoreS.l4s n r_lEqCore r_lEqCoreS r_lEqCoreBindS r_lEqCoreBind (lEqCoreS.l4 n r_lEqCore r_lEqCoreS r_lEqCoreBindS r_lEqCoreBind m) a b i
def lEqCoreS.s (n : Nat) (r_lEqCore : Co → Co → Option Bool) (r_lEqCoreS : (List Co) → (List Co) → Option Bool) (r_lEqCoreBindS : (List Bi) → (List Bi) → Option Bool) (r_lEqCoreBind : Bi → Bi → Option Bool) (l4 : (List Co) → (List Co) → Int → Option Bool) (a : List Co) (b : List Co) : Option Bool :=
bif ((a.length : Int) != (b.length : Int)) then some false
else l4 a b 0
def lEqCoreBindS.l4s (n : Nat) (r_lEqCore : Co → Co → Option Bool) (r_lEqCoreS : (List Co) → (List Co) → Option Bool) (r_lEqCoreBindS : (List Bi) → (List Bi) → Option Bool) (r_lEqCoreBind : Bi → Bi → Option Bool) (l4 : (List Bi) → (List Bi) → Int → Option Bool) (a : List Bi) (b : List Bi) (i : Int) : Option Bool :=
bif (decide (i < (a.length : Int))) then (nthT a i).bind fun x1 =>
(nthT b i).bind fun x2 =>
(r_lEqCoreBind (Bi.eta x1) (Bi.eta x2)).bind fun x3 =>
bif (!x3) then some false
else l4 a b (w64 (i + 1))
else some true
def lEqCoreBindS.l4 (n : Nat) (r_lEqCore : Co → Co → Option Bool) (r_lEqCoreS : (List Co) → (List Co) → Option Bool) (r_lEqCoreBindS : (List Bi) → (List Bi) → Option Bool) (r_lEqCoreBind : Bi → Bi → Option Bool) : Nat → (List Bi) → (List Bi) → Int → Option Bool
  | 0, _, _, _ => none
  | m + 1, a, b, i => lEqCoreBindS.l4s n r_lEqCore r_lEqCoreS r_lEqCoreBindS r_lEqCoreBind (lEqCoreBindS.l4 n r_lEqCore r_lEqCoreS r_lEqCoreBindS r_lEqCoreBind m) a b i
def lEqCoreBindS.s (n : Nat) (r_lEqCore : Co → Co → Option Bool) (r_lEqCoreS : (List Co) → (List Co) → Option Bool) (r_lEqCoreBindS : (List Bi) → (List Bi) → Option Bool) (r_lEqCoreBind : Bi → Bi → Option Bool) (l4 : (List Bi) → (List Bi) → Int → Option Bool) (a : List Bi) (b : List Bi) : Option Bool :=
bif ((a.length : Int) != (b.length : Int)) then some false
else l4 a b 0
def lEqCoreBind.s (n : Nat) (r_lEqCore : Co → Co → Option Bool) (r_lEqCoreS : (List Co) → (List Co) → Option Bool) (r_lEqCoreBindS : (List Bi) → (List Bi) → Option Bool) (r_lEqCoreBind : Bi → Bi → Option Bool) (a : Bi) (b : Bi) : Option Bool :=
bif (!(seqT a.1 b.1)) then some false
else (r_lEqCore a.2.eta b.2.eta).bind fun x1 =>
bif (!x1) then some false
else some true
def lEqCore.g : Nat → (Co → Co → Option Bool) × ((List Co) → (List Co) → Option Bool) × ((List Bi) → (List Bi) → Option Bool) × (Bi → Bi → Option Bool)
  | 0 => (fun _ _ => none, fun _ _ => none, fun _ _ => none, fun _ _ => none)
  | n + 1 => (lEqCore.s n (lEqCore.g n).1 (lEqCore.g n).2.1 (lEqCore.g n).2.2.1 (lEqCore.g n).2.2.2, lEqCoreS.s n (lEqCore.g n).1 (lEqCore.g n).2.1 (lEqCore.g n).2.2.1 (lEqCore.g n).2.2.2 (lEqCoreS.l4 n (lEqCore.g n).1 (lEqCore.g n).2.1 (lEqCore.g n).2.2.1 (lEqCore.g n).2.2.2 n), lEqCoreBindS.s n (lEqCore.g n).1 (lEqCore.g n).2.1 (lEqCore.g n).2.2.1 (lEqCore.g n).2.2.2 (lEqCoreBindS.l4 n (lEqCore.g n).1 (lEqCore.g n).2.1 (lEqCore.g n).2.2.1 (lEqCore.g n).2.2.2 n), lEqCoreBind.s n (lEqCore.g n).1 (lEqCore.g n).2.1 (lEqCore.g n).2.2.1 (lEqCore.g n).2.2.2)
def lEqCore (n : Nat) : Co → Co → Option Bool := (lEqCore.g n).1
def lEqCoreS (n : Nat) : (List Co) → (List Co) → Option Bool := (lEqCore.g n).2.1
def lEqCoreBindS (n : Nat) : (List Bi) → (List Bi) → Option Bool := (lEqCore.g n).2.2.1
def lEqCoreBind (n : Nat) : Bi → Bi → Option Bool := (lEqCore.g n).2.2.2
def lFnExactSizeOfCore.s (n : Nat) (aD : Co) : Option Bool :=
(lSzCore n aD.eta 1048576).bind fun x1 =>
bif (decide (x1 < 0)) then some true
else (lToCore n aD.eta).bind fun x2 =>
(sSizeOfCore n x2.eta).bind fun x3 =>
(lToCore n aD.eta).bind fun x4 =>
(iSizeOfCore n x4.eta).bind fun x5 =>
bif (x5 != x3) then some false
else (lToCore n aD.eta).bind fun x6 =>
(lEqCore n x4.eta x6.eta).bind fun x7 =>
bif (!x7) then some false
else some true
def lFnExactSizeOfCore (n : Nat) (aD : Co) : Option Bool := lFnExactSizeOfCore.s n aD
def lSzExpr.s (n : Nat) (r_lSzExpr : Ex → Int → Option Int) (r_lSzExprS : (List Ex) → Int → Option Int) (a : Ex) (left_ : Int) : Option Int :=
bif (decide ((w64 (left_ - (a.name.size : Int))) < 0)) then some (-1)
else (lSzType n a.ty.eta (w64 (left_ - (a.name.size : Int)))).bind fun x1 =>
bif (decide (x1 < 0)) then some (-1)
else (r_lSzExprS a.args x1).bind fun x2 =>
bif (decide (x2 < 0)) then some (-1)
else some x2
def lSzExprS.l5s (n : Nat) (r_lSzExpr : Ex → Int → Option Int) (r_lSzExprS : (List Ex) → Int → Option Int) (l5 : (List Ex) → Int → Int → Option Int) (a : List Ex) (left_ : Int) (i : Int) : Option Int :=
bif (decide (i < (a.length : Int))) then (nthT a i).bind fun x1 =>
(r_lSzExpr x1.eta left_).bind fun x2 =>
bif (decide (x2 < 0)) then some (-1)
else l5 a x2 (w64 (i + 1))
else some left_
def lSzExprS.l5 (n : Nat) (r_lSzExpr : Ex → Int → Option Int) (r_lSzExprS : (List Ex) → Int → Option Int) : Nat → (List Ex) → Int → Int → Option Int
  | 0, _, _, _ => none
  | m + 1, a, left_, i => lSzExprS.l5s n r_lSzExpr r_lSzExprS (lSzExprS.l5 n r_lSzExpr r_lSzExprS m) a left_ i
def lSzExprS.s (n : Nat) (r_lSzExpr : Ex → Int → Option Int) (r_lSzExprS : (List Ex) → Int → Option Int) (l5 : (List Ex) → Int → Int → Option Int) (a : List Ex) (left_ : Int) : Option Int :=
bif (decide ((w64 (left_ - (a.length : Int))) < 0)) then some (-1)
else l5 a (w64 (left_ - (a.length : Int))) 0
def lSzExpr.g : Nat → (Ex → Int → Option Int) × ((List Ex) → Int → Option Int)
  | 0 => (fun _ _ => none, fun _ _ => none)
  | n + 1 => (lSzExpr.s n (lSzExpr.g n).1 (lSzExpr.g n).2, lSzExprS.s n (lSzExpr.g n).1 (lSzExpr.g n).2 (lSzExprS.l5 n (lSzExpr.g n).1 (lSzExpr.g n).2 n))
def lSzExpr (n : Nat) : Ex → Int → Option Int := (lSzExpr.g n).1
def lSzExprS (n : Nat) : (List Ex) → Int → Option Int := (lSzExpr.g n).2
def lSzIntS.s (n : Nat) (a : List Int) (left_ : Int) : Option Int :=
bif (decide ((w64 (left_ - (a.length : Int))) < 0)) then some (-1)
else some (w64 (left_ - (a.length : Int)))
def lSzIntS (n : Nat) (a : List Int) (left_ : Int) : Option Int := lSzIntS.s n a left_
def lSzEdit.s (n : Nat) (a : Ed) (left_ : Int) : Option Int :=
(lSzExpr n a.ex.eta left_).bind fun x1 =>
bif (decide (x1 < 0)) then some (-1)
else (lSzIntS n a.path x1).bind fun x2 =>
bif (decide (x2 < 0)) then some (-1)
else some x2
def lSzEdit (n : Nat) (a : Ed) (left_ : Int) : Option Int := lSzEdit.s n a left_
def lToExpr.s (n : Nat) (r_lToExpr : Ex → Option Ex) (r_lToExprS : (List Ex) → Option (List Ex)) (a : Ex) : Option Ex :=
(lToType n a.ty.eta).bind fun x1 =>
(r_lToExprS a.args).bind fun x2 =>
some (Ex.mk a.kind a.name a.n x1.eta x2)
def lToExprS.l3s (n : Nat) (r_lToExpr : Ex → Option Ex) (r_lToExprS : (List Ex) → Option (List Ex)) (l3 : (List Ex) → Int → Int → (List Ex) → Option (List Ex)) (a : List Ex) (out : Int) (i : Int) (b7 : List Ex) : Option (List Ex) :=
bif (decide (i < (a.length : Int))) then (nthT a i).bind fun x1 =>
(r_lToExpr x1.eta).bind fun x2 =>
(if inT i out.toNat then some i else none).bind fun x3 =>
bif inT x3 b7.length then l3 a out (w64 (i + 1)) (b7.set x3.toNat x2.eta)
else none
else bif Nat.beq b7.length out.toNat then some b7
else none
def lToExprS.l3 (n : Nat) (r_lToExpr : Ex → Option Ex) (r_lToExprS : (List Ex) → Option (List Ex)) : Nat → (List Ex) → Int → Int → (List Ex) → Option (List Ex)
  | 0, _, _, _, _ => none
  | m + 1, a, out, i, b7 => lToExprS.l3s n r_lToExpr r_lToExprS (lToExprS.l3 n r_lToExpr r_lToExprS m) a out i b7
def lToExprS.s (n : Nat) (r_lToExpr : Ex → Option Ex) (r_lToExprS : (List Ex) → Option (List Ex)) (l3 : (List Ex) → Int → Int → (List Ex) → Option (List Ex)) (a : List Ex) : Option (List Ex) :=
bif makeT (a.length : Int) 88 then l3 a (a.length : Int) 0 (List.replicate (a.length : Int).toNat (UU.dflt 4))
else none
def lToExpr.g : Nat → (Ex → Option Ex) × ((List Ex) → Option (List Ex))
  | 0 => (fun _ => none, fun _ => none)
  | n + 1 => (lToExpr.s n (lToExpr.g n).1 (lToExpr.g n).2, lToExprS.s n (lToExpr.g n).1 (lToExpr.g n).2 (lToExprS.l3 n (lToExpr.g n).1 (lToExpr.g n).2 n))
def lToExpr (n : Nat) : Ex → Option Ex := (lToExpr.g n).1
def lToExprS (n : Nat) : (List Ex) → Option (List Ex) := (lToExpr.g n).2
def lToIntS.l3s (n : Nat) (l3 : (List Int) → Int → Int → (List Int) → Option (List Int)) (a : List Int) (out : Int) (i : Int) (b7 : List Int) : Option (List Int) :=
bif (decide (i < (a.length : Int))) then (nthT a i).bind fun x1 =>
(if inT i out.toNat then some i else none).bind fun x2 =>
bif inT x2 b7.length then l3 a out (w64 (i + 1)) (b7.set x2.toNat x1)
else none
else bif Nat.beq b7.length out.toNat then some b7
else none
def lToIntS.l3 (n : Nat) : Nat → (List Int) → Int → Int → (List Int) → Option (List Int)
  | 0, _, _, _, _ => none
  | m + 1, a, out, i, b7 => lToIntS.l3s n (lToIntS.l3 n m) a out i b7
def lToIntS.s (n : Nat) (l3 : (List Int) → Int → Int → (List Int) → Option (List Int)) (a : List Int) : Option (List Int) :=
bif makeT (a.length : Int) 8 then l3 a (a.length : Int) 0 (List.replicate (a.length : Int).toNat (UU.dflt 0))
else none
def lToIntS (n : Nat) (a : List Int) : Option (List Int) := lToIntS.s n (lToIntS.l3 n n) a
def lToEdit.s (n : Nat) (a : Ed) : Option Ed :=
(lToExpr n a.ex.eta).bind fun x1 =>
(lToIntS n a.path).bind fun x2 =>
some (Ed.mk x1.eta x2)
def lToEdit (n : Nat) (a : Ed) : Option Ed := lToEdit.s n a
def sEqualType.l4s (n : Nat) (r_sEqualType : Ty → Ty → Option Bool) (l4 : Int → Ty → Ty → Option Bool) (k : Int) (a : Ty) (b : Ty) : Option Bool :=
bif (decide (k < (a.args.length : Int))) then (nthT a.args k).bind fun x1 =>
(nthT b.args k).bind fun x2 =>
(r_sEqualType x1.eta x2.eta).bind fun x3 =>
bif (!x3) then some false
else l4 (w64 (k + 1)) a.eta b.eta
else some true
def sEqualType.l4 (n : Nat) (r_sEqualType : Ty → Ty → Option Bool) : Nat → Int → Ty → Ty → Option Bool
  | 0, _, _, _ => none
  | m + 1, k, a, b => sEqualType.l4s n r_sEqualType (sEqualType.l4 n r_sEqualType m) k a b
def sEqualType.s (n : Nat) (r_sEqualType : Ty → Ty → Option Bool) (l4 : Int → Ty → Ty → Option Bool) (a : Ty) (b : Ty) : Option Bool :=
bif ((a.kind != b.kind) || ((a.args.length : Int) != (b.args.length : Int))) then some false
else l4 0 a.eta b.eta
def sEqualType : Nat → Ty → Ty → Option Bool
  | 0, _, _ => none
  | n + 1, a, b => sEqualType.s n (sEqualType n) (sEqualType.l4 n (sEqualType n) n) a b
def sEqualExpr.l4s (n : Nat) (r_sEqualExpr : Ex → Ex → Option Bool) (l4 : Int → Ex → Ex → Option Bool) (k : Int) (a : Ex) (b : Ex) : Option Bool :=
bif (decide (k < (a.args.length : Int))) then (nthT a.args k).bind fun x1 =>
(nthT b.args k).bind fun x2 =>
(r_sEqualExpr x1.eta x2.eta).bind fun x3 =>
bif (!x3) then some false
else l4 (w64 (k + 1)) a.eta b.eta
else some true
def sEqualExpr.l4 (n : Nat) (r_sEqualExpr : Ex → Ex → Option Bool) : Nat → Int → Ex → Ex → Option Bool
  | 0, _, _, _ => none
  | m + 1, k, a, b => sEqualExpr.l4s n r_sEqualExpr (sEqualExpr.l4 n r_sEqualExpr m) k a b
def sEqualExpr.s (n : Nat) (r_sEqualExpr : Ex → Ex → Option Bool) (l4 : Int → Ex → Ex → Option Bool) (a : Ex) (b : Ex) : Option Bool :=
(gd (!(((a.kind != b.kind) || (!(seqT a.name b.name))) || (a.n != b.n))) (sEqualType n a.ty.eta b.ty.eta) false).bind fun x1 =>
bif (((((a.kind != b.kind) || (!(seqT a.name b.name))) || (a.n != b.n)) || (!x1)) || ((a.args.length : Int) != (b.args.length : Int))) then some false
else l4 0 a.eta b.eta
def sEqualExpr : Nat → Ex → Ex → Option Bool
  | 0, _, _ => none
  | n + 1, a, b => sEqualExpr.s n (sEqualExpr n) (sEqualExpr.l4 n (sEqualExpr n) n) a b
def sIsWithin.l4s (n : Nat) (l4 : (List Int) → (List Int) → Int → Option Bool) (path : List Int) (outer : List Int) (k : Int) : Option Bool :=
bif (decide (k < (outer.length : Int))) then (nthT outer k).bind fun x1 =>
(nthT path k).bind fun x2 =>
bif (x1 != x2) then some false
else l4 path outer (w64 (k + 1))
else some true
def sIsWithin.l4 (n : Nat) : Nat → (List Int) → (List Int) → Int → Option Bool
  | 0, _, _, _ => none
  | m + 1, path, outer, k => sIsWithin.l4s n (sIsWithin.l4 n m) path outer k
def sIsWithin.s (n : Nat) (l4 : (List Int) → (List Int) → Int → Option Bool) (path : List Int) (outer : List Int) : Option Bool :=
bif (decide ((outer.length : Int) > (path.length : Int))) then some false
else l4 path outer 0
def sIsWithin (n : Nat) (path : List Int) (outer : List Int) : Option Bool := sIsWithin.s n (sIsWithin.l4 n n) path outer
def sL11Ints.s (n : Nat) (a : List Int) (b : List Int) : Option Bool :=
(gd ((a.length : Int) == (b.length : Int)) (sIsWithin n a b) false).bind fun x1 =>
some (((a.length : Int) == (b.length : Int)) && x1)
def sL11Ints (n : Nat) (a : List Int) (b : List Int) : Option Bool := sL11Ints.s n a b
def sEqualEdit.s (n : Nat) (a : Ed) (b : Ed) : Option Bool :=
(sEqualExpr n a.ex.eta b.ex.eta).bind fun x1 =>
(gd x1 (sL11Ints n a.path b.path) false).bind fun x2 =>
some (x1 && x2)
def sEqualEdit (n : Nat) (a : Ed) (b : Ed) : Option Bool := sEqualEdit.s n a b
def iEqualType.s (n : Nat) (r_iEqualType : Ty → Ty → Option Bool) (r_zEqualFunc_Type_EqualType : (List Ty) → (List Ty) → Option Bool) (a : Ty) (b : Ty) : Option Bool :=
(gd (a.kind == b.kind) (r_zEqualFunc_Type_EqualType a.args b.args) false).bind fun x1 =>
some ((a.kind == b.kind) && x1)
def zEqualFunc_Type_EqualType.l4s (n : Nat) (r_iEqualType : Ty → Ty → Option Bool) (r_zEqualFunc_Type_EqualType : (List Ty) → (List Ty) → Option Bool) (l4 : (List Ty) → (List Ty) → Int → Int → Option Bool) (s2 : List Ty) (t15 : List Ty) (t16 : Int) (t17 : Int) : Option Bool :=
bif (decide (t17 < t16)) then (nthT t15 t17).bind fun x1 =>
(nthT s2 t17).bind fun x2 =>
(r_iEqualType x1.eta x2.eta).bind fun x3 =>
bif (!x3) then some false
else l4 s2 t15 t16 (w64 (t17 + 1))
else some true
def zEqualFunc_Type_EqualType.l4 (n : Nat) (r_iEqualType : Ty → Ty → Option Bool) (r_zEqualFunc_Type_EqualType : (List Ty) → (List Ty) → Option Bool) : Nat → (List Ty) → (List Ty) → Int → Int → Option Bool
  | 0, _, _, _, _ => none
  | m + 1, s2, t15, t16, t17 => zEqualFunc_Type_EqualType.l4s n r_iEqualType r_zEqualFunc_Type_EqualType (zEqualFunc_Type_EqualType.l4 n r_iEqualType r_zEqualFunc_Type_EqualType m) s2 t15 t16 t17
def zEqualFunc_Type_EqualType.s (n : Nat) (r_iEqualType : Ty → Ty → Option Bool) (r_zEqualFunc_Type_EqualType : (List Ty) → (List Ty) → Option Bool) (l4 : (List Ty) → (List Ty) → Int → Int → Option Bool) (s1 : List Ty) (s2 : List Ty) : Option Bool :=
bif ((s1.length : Int) != (s2.length : Int)) then some false
else l4 s2 s1 (s1.length : Int) 0
def iEqualType.g : Nat → (Ty → Ty → Option Bool) × ((List Ty) → (List Ty) → Option Bool)
  | 0 => (fun _ _ => none, fun _ _ => none)
  | n + 1 => (iEqualType.s n (iEqualType.g n).1 (iEqualType.g n).2, zEqualFunc_Type_EqualType.s n (iEqualType.g n).1 (iEqualType.g n).2 (zEqualFunc_Type_EqualType.l4 n (iEqualType.g n).1 (iEqualType.g n).2 n))
def iEqualType (n : Nat) : Ty → Ty → Option Bool := (iEqualType.g n).1
def zEqualFunc_Type_EqualType (n : Nat) : (List Ty) → (List Ty) → Option Bool := (iEqualType.g n).2
def iEqualExpr.s (n : Nat) (r_iEqualExpr : Ex → Ex → Option Bool) (r_zEqualFunc_Expr_EqualExpr : (List Ex) → (List Ex) → Option Bool) (a : Ex) (b : Ex) : Option Bool :=
(gd (((a.kind == b.kind) && (seqT a.name b.name)) && (a.n == b.n)) (iEqualType n a.ty.eta b.ty.eta) false).bind fun x1 =>
(gd ((((a.kind == b.kind) && (seqT a.name b.name)) && (a.n == b.n)) && x1) (r_zEqualFunc_Expr_EqualExpr a.args b.args) false).bind fun x2 =>
some (((((a.kind == b.kind) && (seqT a.name b.name)) && (a.n == b.n)) && x1) && x2)
def zEqualFunc_Expr_EqualExpr.l4s (n : Nat) (r_iEqualExpr : Ex → Ex → Option Bool) (r_zEqualFunc_Expr_EqualExpr : (List Ex) → (List Ex) → Option Bool) (l4 : (List Ex) → (List Ex) → Int → Int → Option Bool) (s2 : List Ex) (t15 : List Ex) (t16 : Int) (t17 : Int) : Option Bool :=
bif (decide (t17 < t16)) then (nthT t15 t17).bind fun x1 =>
(nthT s2 t17).bind fun x2 =>
(r_iEqualExpr x1.eta x2.eta).bind fun x3 =>
bif (!x3) then some false
else l4 s2 t15 t16 (w64 (t17 + 1))
else some true
def zEqualFunc_Expr_EqualExpr.l4 (n : Nat) (r_iEqualExpr : Ex → Ex → Option Bool) (r_zEqualFunc_Expr_EqualExpr : (List Ex) → (List Ex) → Option Bool) : Nat → (List Ex) → (List Ex) → Int → Int → Option Bool
  | 0, _, _, _, _ => none
  | m + 1, s2, t15, t16, t17 => zEqualFunc_Expr_EqualExpr.l4s n r_iEqualExpr r_zEqualFunc_Expr_EqualExpr (zEqualFunc_Expr_EqualExpr.l4 n r_iEqualExpr r_zEqualFunc_Expr_EqualExpr m) s2 t15 t16 t17
def zEqualFunc_Expr_EqualExpr.s (n : Nat) (r_iEqualExpr : Ex → Ex → Option Bool) (r_zEqualFunc_Expr_EqualExpr : (List Ex) → (List Ex) → Option Bool) (l4 : (List Ex) → (List Ex) → Int → Int → Option Bool) (s1 : List Ex) (s2 : List Ex) : Option Bool :=
bif ((s1.length : Int) != (s2.length : Int)) then some false
else l4 s2 s1 (s1.length : Int) 0
def iEqualExpr.g : Nat → (Ex → Ex → Option Bool) × ((List Ex) → (List Ex) → Option Bool)
  | 0 => (fun _ _ => none, fun _ _ => none)
  | n + 1 => (iEqualExpr.s n (iEqualExpr.g n).1 (iEqualExpr.g n).2, zEqualFunc_Expr_EqualExpr.s n (iEqualExpr.g n).1 (iEqualExpr.g n).2 (zEqualFunc_Expr_EqualExpr.l4 n (iEqualExpr.g n).1 (iEqualExpr.g n).2 n))
def iEqualExpr (n : Nat) : Ex → Ex → Option Bool := (iEqualExpr.g n).1
def zEqualFunc_Expr_EqualExpr (n : Nat) : (List Ex) → (List Ex) → Option Bool := (iEqualExpr.g n).2
def zEqual_Lint.l4s (n : Nat) (l4 : (List Int) → (List Int) → Int → Int → Option Bool) (s1 : List Int) (s2 : List Int) (t12 : Int) (t13 : Int) : Option Bool :=
bif (decide (t13 < t12)) then (nthT s1 t13).bind fun x1 =>
(nthT s2 t13).bind fun x2 =>
bif (x1 != x2) then some false
else l4 s1 s2 t12 (w64 (t13 + 1))
else some true
def zEqual_Lint.l4 (n : Nat) : Nat → (List Int) → (List Int) → Int → Int → Option Bool
  | 0, _, _, _, _ => none
  | m + 1, s1, s2, t12, t13 => zEqual_Lint.l4s n (zEqual_Lint.l4 n m) s1 s2 t12 t13
def zEqual_Lint.s (n : Nat) (l4 : (List Int) → (List Int) → Int → Int → Option Bool) (s1 : List Int) (s2 : List Int) : Option Bool :=
bif ((s1.length : Int) != (s2.length : Int)) then some false
else l4 s1 s2 (s1.length : Int) 0
def zEqual_Lint (n : Nat) (s1 : List Int) (s2 : List Int) : Option Bool := zEqual_Lint.s n (zEqual_Lint.l4 n n) s1 s2
def iEqualEdit.s (n : Nat) (a : Ed) (b : Ed) : Option Bool :=
(iEqualExpr n a.ex.eta b.ex.eta).bind fun x1 =>
(gd x1 (zEqual_Lint n a.path b.path) false).bind fun x2 =>
some (x1 && x2)
def iEqualEdit (n : Nat) (a : Ed) (b : Ed) : Option Bool := iEqualEdit.s n a b
def lEqExpr.s (n : Nat) (r_lEqExpr : Ex → Ex → Option Bool) (r_lEqExprS : (List Ex) → (List Ex) → Option Bool) (a : Ex) (b : Ex) : Option Bool :=
bif (a.kind != b.kind) then some false
else bif (!(seqT a.name b.name)) then some false
else bif (a.n != b.n) then some false
else (lEqType n a.ty.eta b.ty.eta).bind fun x1 =>
bif (!x1) then some false
else (r_lEqExprS a.args b.args).bind fun x2 =>
bif (!x2) then some false
else some true
def lEqExprS.l4s (n : Nat) (r_lEqExpr : Ex → Ex → Option Bool) (r_lEqExprS : (List Ex) → (List Ex) → Option Bool) (l4 : (List Ex) → (List Ex) → Int → Option Bool) (a : List Ex) (b : List Ex) (i : Int) : Option Bool :=
bif (decide (i < (a.length : Int))) then (nthT a i).bind fun x1 =>
(nthT b i).bind fun x2 =>
(r_lEqExpr x1.eta x2.eta).bind fun x3 =>
bif (!x3) then some false
else l4 a b (w64 (i + 1))
else some true
def lEqExprS.l4 (n : Nat) (r_lEqExpr : Ex → Ex → Option Bool) (r_lEqExprS : (List Ex) → (List Ex) → Option Bool) : Nat → (List Ex) → (List Ex) → Int → Option Bool
  | 0, _, _, _ => none
  | m + 1, a, b, i => lEqExprS.l4s n r_lEqExpr r_lEqExprS (lEqExprS.l4 n r_lEqExpr r_lEqExprS m) a b i
def lEqExprS.s (n : Nat) (r_lEqExpr : Ex → Ex → Option Bool) (r_lEqExprS : (List Ex) → (List Ex) → Option Bool) (l4 : (List Ex) → (List Ex) → Int → Option Bool) (a : List Ex) (b : List Ex) : Option Bool :=
bif ((a.length : Int) != (b.length : Int)) then some false
else l4 a b 0
def lEqExpr.g : Nat → (Ex → Ex → Option Bool) × ((List Ex) → (List Ex) → Option Bool)
  | 0 => (fun _ _ => none, fun _ _ => none)
  | n + 1 => (lEqExpr.s n (lEqExpr.g n).1 (lEqExpr.g n).2, lEqExprS.s n (lEqExpr.g n).1 (lEqExpr.g n).2 (lEqExprS.l4 n (lEqExpr.g n).1 (lEqExpr.g n).2 n))
def lEqExpr (n : Nat) : Ex → Ex → Option Bool := (lEqExpr.g n).1
def lEqExprS (n : Nat) : (List Ex) → (List Ex) → Option Bool := (lEqExpr.g n).2
def lEqIntS.l4s (n : Nat) (l4 : (List Int) → (List Int) → Int → Option Bool) (a : List Int) (b : List Int) (i : Int) : Option Bool :=
bif (decide (i < (a.length : Int))) then (nthT a i).bind fun x1 =>
(nthT b i).bind fun x2 =>
bif (x1 != x2) then some false
else l4 a b (w64 (i + 1))
else some true
def lEqIntS.l4 (n : Nat) : Nat → (List Int) → (List Int) → Int → Option Bool
  | 0, _, _, _ => none
  | m + 1, a, b, i => lEqIntS.l4s n (lEqIntS.l4 n m) a b i
def lEqIntS.s (n : Nat) (l4 : (List Int) → (List Int) → Int → Option Bool) (a : List Int) (b : List Int) : Option Bool :=
bif ((a.length : Int) != (b.length : Int)) then some false
else l4 a b 0
def lEqIntS (n : Nat) (a : List Int) (b : List Int) : Option Bool := lEqIntS.s n (lEqIntS.l4 n n) a b
def lEqEdit.s (n : Nat) (a : Ed) (b : Ed) : Option Bool :=
(lEqExpr n a.ex.eta b.ex.eta).bind fun x1 =>
bif (!x1) then some false
else (lEqIntS n a.path b.path).bind fun x2 =>
bif (!x2) then some false
else some true
def lEqEdit (n : Nat) (a : Ed) (b : Ed) : Option Bool := lEqEdit.s n a b
def lFnExactEqualEdit.s (n : Nat) (aA : Ed) (aB : Ed) : Option Bool :=
(lSzEdit n aA.eta 1048576).bind fun x1 =>
bif (decide (x1 < 0)) then some true
else (lSzEdit n aB.eta x1).bind fun x2 =>
bif (decide (x2 < 0)) then some true
else (lToEdit n aA.eta).bind fun x3 =>
(lToEdit n aB.eta).bind fun x4 =>
(sEqualEdit n x3.eta x4.eta).bind fun x5 =>
(lToEdit n aA.eta).bind fun x6 =>
(lToEdit n aB.eta).bind fun x7 =>
(iEqualEdit n x6.eta x7.eta).bind fun x8 =>
bif (!(x8 == x5)) then some false
else (lToEdit n aA.eta).bind fun x9 =>
(lEqEdit n x6.eta x9.eta).bind fun x10 =>
bif (!x10) then some false
else (lToEdit n aB.eta).bind fun x11 =>
(lEqEdit n x7.eta x11.eta).bind fun x12 =>
bif (!x12) then some false
else some true
def lFnExactEqualEdit (n : Nat) (aA : Ed) (aB : Ed) : Option Bool := lFnExactEqualEdit.s n aA aB
def sEqualCore.l4s (n : Nat) (r_sEqualCore : Co → Co → Option Bool) (l4 : Int → Co → Co → Option Bool) (l9 : Int → Co → Co → Option Bool) (t5 : Int) (b2 : Co) (b3 : Co) : Option Bool :=
bif (decide (t5 < (b2.args.length : Int))) then (nthT b2.args t5).bind fun x1 =>
(nthT b3.args t5).bind fun x2 =>
(r_sEqualCore x1.eta x2.eta).bind fun x3 =>
bif (!x3) then some false
else l4 (w64 (t5 + 1)) b2.eta b3.eta
else l9 0 b2.eta b3.eta
def sEqualCore.l9s (n : Nat) (r_sEqualCore : Co → Co → Option Bool) (l4 : Int → Co → Co → Option Bool) (l9 : Int → Co → Co → Option Bool) (t6 : Int) (b2 : Co) (b3 : Co) : Option Bool :=
bif (decide (t6 < (b2.env.length : Int))) then (nthT b2.env t6).bind fun x1 =>
(nthT b3.env t6).bind fun x2 =>
(gd (!(!(seqT x1.1 x2.1))) (nthT b2.env t6) (UU.dflt 6)).bind fun x3 =>
(gd (!(!(seqT x1.1 x2.1))) (nthT b3.env t6) (UU.dflt 6)).bind fun x4 =>
(gd (!(!(seqT x1.1 x2.1))) (r_sEqualCore x3.2.eta x4.2.eta) false).bind fun x5 =>
bif ((!(seqT x1.1 x2.1)) || (!x5)) then some false
else l9 (w64 (t6 + 1)) b2.eta b3.eta
else some true
def sEqualCore.ls (n : Nat) (r_sEqualCore : Co → Co → Option Bool) : Nat → (Int → Co → Co → Option Bool) × (Int → Co → Co → Option Bool)
  | 0 => (fun _ _ _ => none, fun _ _ _ => none)
  | m + 1 => (sEqualCore.l4s n r_sEqualCore (sEqualCore.ls n r_sEqualCore m).1 (sEqualCore.ls n r_sEqualCore m).2, sEqualCore.l9s n r_sEqualCore (sEqualCore.ls n r_sEqualCore m).1 (sEqualCore.ls n r_sEqualCore m).2)
def sEqualCore.l4 (n : Nat) (r_sEqualCore : Co → Co → Option Bool) (m : Nat) : Int → Co → Co → Option Bool := (sEqualCore.ls n r_sEqualCore m).1
def sEqualCore.l9 (n : Nat) (r_sEqualCore : Co → Co → Option Bool) (m : Nat) : Int → Co → Co → Option Bool := (sEqualCore.ls n r_sEqualCore m).2
def sEqualCore.s (n : Nat) (r_sEqualCore : Co → Co → Option Bool) (l4 : Int → Co → Co → Option Bool) (l9 : Int → Co → Co → Option Bool) (a0 : Co) (a1 : Co) : Option Bool :=
(gd (!(((a0.kind != a1.kind) || (!(seqT a0.name a1.name))) || (a0.n != a1.n))) (sEqualType n a0.fr.eta a1.fr.eta) false).bind fun x1 =>
(gd (!((((a0.kind != a1.kind) || (!(seqT a0.name a1.name))) || (a0.n != a1.n)) || (!x1))) (sEqualType n a0.ty.eta a1.ty.eta) false).bind fun x2 =>
bif (((((((a0.kind != a1.kind) || (!(seqT a0.name a1.name))) || (a0.n != a1.n)) || (!x1)) || (!x2)) || ((a0.args.length : Int) != (a1.args.length : Int))) || ((a0.env.length : Int) != (a1.env.length : Int))) then some false
else l4 0 a0.eta a1.eta
def sEqualCore : Nat → Co → Co → Option Bool
  | 0, _, _ => none
  | n + 1, a0, a1 => sEqualCore.s n (sEqualCore n) (sEqualCore.l4 n (sEqualCore n) n) (sEqualCore.l9 n (sEqualCore n) n) a0 a1
def iEqualCore.s (n : Nat) (r_iEqualCore : Co → Co → Option Bool) (r_zEqualFunc_Core_EqualCore : (List Co) → (List Co) → Option Bool) (r_zEqualFunc_CoreBind_EqualBind : (List Bi) → (List Bi) → Option Bool) (r_iEqualBind : Bi → Bi → Option Bool) (a : Co) (b : Co) : Option Bool :=
(gd (((a.kind == b.kind) && (seqT a.name b.name)) && (a.n == b.n)) (iEqualType n a.fr.eta b.fr.eta) false).bind fun x1 =>
(gd ((((a.kind == b.kind) && (seqT a.name b.name)) && (a.n == b.n)) && x1) (iEqualType n a.ty.eta b.ty.eta) false).bind fun x2 =>
(gd (((((a.kind == b.kind) && (seqT a.name b.name)) && (a.n == b.n)) && x1) && x2) (r_zEqualFunc_Core_EqualCore a.args b.args) false).bind fun x3 =>
(gd ((((((a.kind == b.kind) && (seqT a.name b.name)) && (a.n == b.n)) && x1) && x2) && x3) (r_zEqualFunc_CoreBind_EqualBind a.env b.env) false).bind fun x4 =>
some (((((((a.kind == b.kind) && (seqT a.name b.name)) && (a.n == b.n)) && x1) && x2) && x3) && x4)
def zEqualFunc_Core_EqualCore.l4s (n : Nat) (r_iEqualCore : Co → Co → Option Bool) (r_zEqualFunc_Core_EqualCore : (List Co) → (List Co) → Option Bool) (r_zEqualFunc_CoreBind_EqualBind : (List Bi) → (List Bi) → Option Bool) (r_iEqualBind : Bi → Bi → Option Bool) (l4 : (List Co) → (List Co) → Int → Int → Option Bool) (s2 : List Co) (t15 : List Co) (t16 : Int) (t17 : Int) : Option Bool :=
bif (decide (t17 < t16)) then (nthT t15 t17).bind fun x1 =>
(nthT s2 t17).bind fun x2 =>
(r_iEqualCore x1.eta x2.eta).bind fun x3 =>
bif (!x3) then some false
else l4 s2 t15 t16 (w64 (t17 + 1))
else some true
def zEqualFunc_Core_EqualCore.l4 (n : Nat) (r_iEqualCore : Co → Co → Option Bool) (r_zEqualFunc_Core_EqualCore : (List Co) → (List Co) → Option Bool) (r_zEqualFunc_CoreBind_EqualBind : (List Bi) → (List Bi) → Option Bool) (r_iEqualBind : Bi → Bi → Option Bool) : Nat → (List Co) → (List Co) → Int → Int → Option Bool
  | 0, _, _, _, _ => none
  | m + 1, s2, t15, t16, t17 => zEqualFunc_Core_EqualCore.l4s n r_iEqualCore r_zEqualFunc_Core_EqualCore r_zEqualFunc_CoreBind_EqualBind r_iEqualBind (zEqualFunc_Core_EqualCore.l4 n r_iEqualCore r_zEqualFunc_Core_EqualCore r_zEqualFunc_CoreBind_EqualBind r_iEqualBind m) s2 t15 t16 t17
def zEqualFunc_Core_EqualCore.s (n : Nat) (r_iEqualCore : Co → Co → Option Bool) (r_zEqualFunc_Core_EqualCore : (List Co) → (List Co) → Option Bool) (r_zEqualFunc_CoreBind_EqualBind : (List Bi) → (List Bi) → Option Bool) (r_iEqualBind : Bi → Bi → Option Bool) (l4 : (List Co) → (List Co) → Int → Int → Option Bool) (s1 : List Co) (s2 : List Co) : Option Bool :=
bif ((s1.length : Int) != (s2.length : Int)) then some false
else l4 s2 s1 (s1.length : Int) 0
def zEqualFunc_CoreBind_EqualBind.l4s (n : Nat) (r_iEqualCore : Co → Co → Option Bool) (r_zEqualFunc_Core_EqualCore : (List Co) → (List Co) → Option Bool) (r_zEqualFunc_CoreBind_EqualBind : (List Bi) → (List Bi) → Option Bool) (r_iEqualBind : Bi → Bi → Option Bool) (l4 : (List Bi) → (List Bi) → Int → Int → Option Bool) (s2 : List Bi) (t15 : List Bi) (t16 : Int) (t17 : Int) : Option Bool :=
bif (decide (t17 < t16)) then (nthT t15 t17).bind fun x1 =>
(nthT s2 t17).bind fun x2 =>
(r_iEqualBind (Bi.eta x1) (Bi.eta x2)).bind fun x3 =>
bif (!x3) then some false
else l4 s2 t15 t16 (w64 (t17 + 1))
else some true
def zEqualFunc_CoreBind_EqualBind.l4 (n : Nat) (r_iEqualCore : Co → Co → Option Bool) (r_zEqualFunc_Core_EqualCore : (List Co) → (List Co) → Option Bool) (r_zEqualFunc_CoreBind_EqualBind : (List Bi) → (List Bi) → Option Bool) (r_iEqualBind : Bi → Bi → Option Bool) : Nat → (List Bi) → (List Bi) → Int → Int → Option Bool
  | 0, _, _, _, _ => none
  | m + 1, s2, t15, t16, t17 => zEqualFunc_CoreBind_EqualBind.l4s n r_iEqualCore r_zEqualFunc_Core_EqualCore r_zEqualFunc_CoreBind_EqualBind r_iEqualBind (zEqualFunc_CoreBind_EqualBind.l4 n r_iEqualCore r_zEqualFunc_Core_EqualCore r_zEqualFunc_CoreBind_EqualBind r_iEqualBind m) s2 t15 t16 t17
def zEqualFunc_CoreBind_EqualBind.s (n : Nat) (r_iEqualCore : Co → Co → Option Bool) (r_zEqualFunc_Core_EqualCore : (List Co) → (List Co) → Option Bool) (r_zEqualFunc_CoreBind_EqualBind : (List Bi) → (List Bi) → Option Bool) (r_iEqualBind : Bi → Bi → Option Bool) (l4 : (List Bi) → (List Bi) → Int → Int → Option Bool) (s1 : List Bi) (s2 : List Bi) : Option Bool :=
bif ((s1.length : Int) != (s2.length : Int)) then some false
else l4 s2 s1 (s1.length : Int) 0
def iEqualBind.s (n : Nat) (r_iEqualCore : Co → Co → Option Bool) (r_zEqualFunc_Core_EqualCore : (List Co) → (List Co) → Option Bool) (r_zEqualFunc_CoreBind_EqualBind : (List Bi) → (List Bi) → Option Bool) (r_iEqualBind : Bi → Bi → Option Bool) (a : Bi) (b : Bi) : Option Bool :=
(gd (seqT a.1 b.1) (r_iEqualCore a.2.eta b.2.eta) false).bind fun x1 =>
some ((seqT a.1 b.1) && x1)
def iEqualCore.g : Nat → (Co → Co → Option Bool) × ((List Co) → (List Co) → Option Bool) × ((List Bi) → (List Bi) → Option Bool) × (Bi → Bi → Option Bool)
  | 0 => (fun _ _ => none, fun _ _ => none, fun _ _ => none, fun _ _ => none)
  | n + 1 => (iEqualCore.s n (iEqualCore.g n).1 (iEqualCore.g n).2.1 (iEqualCore.g n).2.2.1 (iEqualCore.g n).2.2.2, zEqualFunc_Core_EqualCore.s n (iEqualCore.g n).1 (iEqualCore.g n).2.1 (iEqualCore.g n).2.2.1 (iEqualCore.g n).2.2.2 (zEqualFunc_Core_EqualCore.l4 n (iEqualCore.g n).1 (iEqualCore.g n).2.1 (iEqualCore.g n).2.2.1 (iEqualCore.g n).2.2.2 n), zEqualFunc_CoreBind_EqualBind.s n (iEqualCore.g n).1 (iEqualCore.g n).2.1 (iEqualCore.g n).2.2.1 (iEqualCore.g n).2.2.2 (zEqualFunc_CoreBind_EqualBind.l4 n (iEqualCore.g n).1 (iEqualCore.g n).2.1 (iEqualCore.g n).2.2.1 (iEqualCore.g n).2.2.2 n), iEqualBind.s n (iEqualCore.g n).1 (iEqualCore.g n).2.1 (iEqualCore.g n).2.2.1 (iEqualCore.g n).2.2.2)
def iEqualCore (n : Nat) : Co → Co → Option Bool := (iEqualCore.g n).1
def zEqualFunc_Core_EqualCore (n : Nat) : (List Co) → (List Co) → Option Bool := (iEqualCore.g n).2.1
def zEqualFunc_CoreBind_EqualBind (n : Nat) : (List Bi) → (List Bi) → Option Bool := (iEqualCore.g n).2.2.1
def iEqualBind (n : Nat) : Bi → Bi → Option Bool := (iEqualCore.g n).2.2.2
def lFnExactEqualCore.s (n : Nat) (aA : Co) (aB : Co) : Option Bool :=
(lSzCore n aA.eta 1048576).bind fun x1 =>
bif (decide (x1 < 0)) then some true
else (lSzCore n aB.eta x1).bind fun x2 =>
bif (decide (x2 < 0)) then some true
else (lToCore n aA.eta).bind fun x3 =>
(lToCore n aB.eta).bind fun x4 =>
(sEqualCore n x3.eta x4.eta).bind fun x5 =>
(lToCore n aA.eta).bind fun x6 =>
(lToCore n aB.eta).bind fun x7 =>
(iEqualCore n x6.eta x7.eta).bind fun x8 =>
bif (!(x8 == x5)) then some false
else (lToCore n aA.eta).bind fun x9 =>
(lEqCore n x6.eta x9.eta).bind fun x10 =>
bif (!x10) then some false
else (lToCore n aB.eta).bind fun x11 =>
(lEqCore n x7.eta x11.eta).bind fun x12 =>
bif (!x12) then some false
else some true
def lFnExactEqualCore (n : Nat) (aA : Co) (aB : Co) : Option Bool := lFnExactEqualCore.s n aA aB
def lSzAction.s (n : Nat) (a : Ac) (left_ : Int) : Option Int :=
bif (decide ((w64 (left_ - (a.name.size : Int))) < 0)) then some (-1)
else (lSzType n a.ty.eta (w64 (left_ - (a.name.size : Int)))).bind fun x1 =>
bif (decide (x1 < 0)) then some (-1)
else some x1
def lSzAction (n : Nat) (a : Ac) (left_ : Int) : Option Int := lSzAction.s n a left_
def lToAction.s (n : Nat) (a : Ac) : Option Ac :=
(lToType n a.ty.eta).bind fun x1 =>
some (Ac.mk a.kind a.name a.n x1.eta)
def lToAction (n : Nat) (a : Ac) : Option Ac := lToAction.s n a
def sL1In.s (n : Nat) (x_ : Int) (lo : Int) (hi : Int) : Option Bool :=
some ((decide (x_ ≥ lo)) && (decide (x_ ≤ hi)))
def sL1In (n : Nat) (x_ : Int) (lo : Int) (hi : Int) : Option Bool := sL1In.s n x_ lo hi
def sL15Named.s (n : Nat) (kind : Int) : Option Bool :=
some (((kind == 6) || (kind == 9)) || (kind == 20))
def sL15Named (n : Nat) (kind : Int) : Option Bool := sL15Named.s n kind
def sIsName.l2s (n : Nat) (l2 : ByteArray → Int → Option Bool) (s : ByteArray) (k : Int) : Option Bool :=
bif (decide (k < (s.size : Int))) then (byteT s k).bind fun x1 =>
(gd (decide (x1 ≥ 97)) (byteT s k) 0).bind fun x2 =>
(gd ((!((decide (x1 ≥ 97)) && (decide (x2 ≤ 122)))) && (!(k == 0))) (byteT s k) 0).bind fun x3 =>
(gd ((!((decide (x1 ≥ 97)) && (decide (x2 ≤ 122)))) && (!((k == 0) || (decide (x3 < 48))))) (byteT s k) 0).bind fun x4 =>
bif ((!((decide (x1 ≥ 97)) && (decide (x2 ≤ 122)))) && (((k == 0) || (decide (x3 < 48))) || (decide (x4 > 57)))) then some false
else l2 s (w64 (k + 1))
else (sL1In n (s.size : Int) 1 5).bind fun x5 =>
some (((x5 && (!(seqT s (⟨#[105, 102]⟩ : ByteArray)))) && (!(seqT s (⟨#[102, 115, 116]⟩ : ByteArray)))) && (!(seqT s (⟨#[115, 110, 100]⟩ : ByteArray))))
def sIsName.l2 (n : Nat) : Nat → ByteArray → Int → Option Bool
  | 0, _, _ => none
  | m + 1, s, k => sIsName.l2s n (sIsName.l2 n m) s k
def sIsName.s (n : Nat) (l2 : ByteArray → Int → Option Bool) (s : ByteArray) : Option Bool :=
l2 s 0
def sIsName (n : Nat) (s : ByteArray) : Option Bool := sIsName.s n (sIsName.l2 n n) s
def sL15Typed.s (n : Nat) (kind : Int) : Option Bool :=
some (((kind == 9) || (kind == 17)) || (kind == 19))
def sL15Typed (n : Nat) (kind : Int) : Option Bool := sL15Typed.s n kind
def sL3Left.l3s (n : Nat) (r_sL3Left : Ty → Int → Option Int) (l3 : Int → Int → Ty → Option Int) (left_ : Int) (k : Int) (t : Ty) : Option Int :=
bif ((decide (k < (t.args.length : Int))) && (decide (left_ ≥ 0))) then (nthT t.args k).bind fun x1 =>
(r_sL3Left x1.eta left_).bind fun x2 =>
l3 x2 (w64 (k + 1)) t.eta
else some left_
def sL3Left.l3 (n : Nat) (r_sL3Left : Ty → Int → Option Int) : Nat → Int → Int → Ty → Option Int
  | 0, _, _, _ => none
  | m + 1, left_, k, t => sL3Left.l3s n r_sL3Left (sL3Left.l3 n r_sL3Left m) left_ k t
def sL3Left.s (n : Nat) (r_sL3Left : Ty → Int → Option Int) (l3 : Int → Int → Ty → Option Int) (t : Ty) (left_ : Int) : Option Int :=
l3 (w64 (left_ - 1)) 0 t.eta
def sL3Left : Nat → Ty → Int → Option Int
  | 0, _, _ => none
  | n + 1, t, left_ => sL3Left.s n (sL3Left n) (sL3Left.l3 n (sL3Left n) n) t left_
def sL1Max.s (n : Nat) (a : Int) (b : Int) : Option Int :=
bif (decide (a > b)) then some a
else some b
def sL1Max (n : Nat) (a : Int) (b : Int) : Option Int := sL1Max.s n a b
def sDepthOfType.l3s (n : Nat) (r_sDepthOfType : Ty → Option Int) (l3 : Int → Int → Ty → Option Int) (n_ : Int) (k : Int) (t : Ty) : Option Int :=
bif (decide (k < (t.args.length : Int))) then (nthT t.args k).bind fun x1 =>
(r_sDepthOfType x1.eta).bind fun x2 =>
(sL1Max n n_ x2).bind fun x3 =>
l3 x3 (w64 (k + 1)) t.eta
else some (w64 (n_ + 1))
def sDepthOfType.l3 (n : Nat) (r_sDepthOfType : Ty → Option Int) : Nat → Int → Int → Ty → Option Int
  | 0, _, _, _ => none
  | m + 1, n_, k, t => sDepthOfType.l3s n r_sDepthOfType (sDepthOfType.l3 n r_sDepthOfType m) n_ k t
def sDepthOfType.s (n : Nat) (r_sDepthOfType : Ty → Option Int) (l3 : Int → Int → Ty → Option Int) (t : Ty) : Option Int :=
l3 0 0 t.eta
def sDepthOfType : Nat → Ty → Option Int
  | 0, _ => none
  | n + 1, t => sDepthOfType.s n (sDepthOfType n) (sDepthOfType.l3 n (sDepthOfType n) n) t
def sL3Form.l2s (n : Nat) (r_sL3Form : Ty → Option Bool) (l2 : Int → Ty → Option Bool) (k : Int) (t : Ty) : Option Bool :=
bif (decide (k < (t.args.length : Int))) then (nthT t.args k).bind fun x1 =>
(r_sL3Form x1.eta).bind fun x2 =>
bif (!x2) then some false
else l2 (w64 (k + 1)) t.eta
else bif (t.kind == 1) then some ((t.args.length : Int) == 0)
else bif (t.kind == 2) then some ((t.args.length : Int) == 0)
else bif (t.kind == 3) then some ((t.args.length : Int) == 0)
else bif (t.kind == 4) then some ((t.args.length : Int) == 2)
else bif (t.kind == 5) then some ((t.args.length : Int) == 2)
else some false
def sL3Form.l2 (n : Nat) (r_sL3Form : Ty → Option Bool) : Nat → Int → Ty → Option Bool
  | 0, _, _ => none
  | m + 1, k, t => sL3Form.l2s n r_sL3Form (sL3Form.l2 n r_sL3Form m) k t
def sL3Form.s (n : Nat) (r_sL3Form : Ty → Option Bool) (l2 : Int → Ty → Option Bool) (t : Ty) : Option Bool :=
l2 0 t.eta
def sL3Form : Nat → Ty → Option Bool
  | 0, _ => none
  | n + 1, t => sL3Form.s n (sL3Form n) (sL3Form.l2 n (sL3Form n) n) t
def sIsValidType.s (n : Nat) (t : Ty) : Option Bool :=
(sL3Left n t.eta 800).bind fun x1 =>
(gd (decide (x1 ≥ 0)) (sDepthOfType n t.eta) 0).bind fun x2 =>
(gd ((decide (x1 ≥ 0)) && (decide (x2 ≤ 24))) (sL3Form n t.eta) false).bind fun x3 =>
some (((decide (x1 ≥ 0)) && (decide (x2 ≤ 24))) && x3)
def sIsValidType (n : Nat) (t : Ty) : Option Bool := sIsValidType.s n t
def sSizeOfType.l3s (n : Nat) (r_sSizeOfType : Ty → Option Int) (l3 : Int → Int → Ty → Option Int) (n_ : Int) (k : Int) (t : Ty) : Option Int :=
bif (decide (k < (t.args.length : Int))) then (nthT t.args k).bind fun x1 =>
(r_sSizeOfType x1.eta).bind fun x2 =>
l3 (w64 (n_ + x2)) (w64 (k + 1)) t.eta
else some n_
def sSizeOfType.l3 (n : Nat) (r_sSizeOfType : Ty → Option Int) : Nat → Int → Int → Ty → Option Int
  | 0, _, _, _ => none
  | m + 1, n_, k, t => sSizeOfType.l3s n r_sSizeOfType (sSizeOfType.l3 n r_sSizeOfType m) n_ k t
def sSizeOfType.s (n : Nat) (r_sSizeOfType : Ty → Option Int) (l3 : Int → Int → Ty → Option Int) (t : Ty) : Option Int :=
l3 1 0 t.eta
def sSizeOfType : Nat → Ty → Option Int
  | 0, _ => none
  | n + 1, t => sSizeOfType.s n (sSizeOfType n) (sSizeOfType.l3 n (sSizeOfType n) n) t
def sIsNote.s (n : Nat) (t : Ty) : Option Bool :=
(sIsValidType n t.eta).bind fun x1 =>
(gd x1 (sSizeOfType n t.eta) 0).bind fun x2 =>
(gd (x1 && (decide (x2 ≤ 15))) (sDepthOfType n t.eta) 0).bind fun x3 =>
some ((x1 && (decide (x2 ≤ 15))) && (decide (x3 ≤ 5)))
def sIsNote (n : Nat) (t : Ty) : Option Bool := sIsNote.s n t
def sL15Most.s (n : Nat) (kind : Int) : Option Int :=
bif (kind == 2) then some 2
else bif (kind == 18) then some 2
else bif (kind == 7) then some 999
else bif (kind == 8) then some 1
else some (-1)
def sL15Most (n : Nat) (kind : Int) : Option Int := sL15Most.s n kind
def sIsAction.s (n : Nat) (a : Ac) : Option Bool :=
(sL1In n a.kind 1 20).bind fun x1 =>
(gd (!(!x1)) (sL15Named n a.kind) false).bind fun x2 =>
(gd (!(!x1)) (sIsName n a.name) false).bind fun x3 =>
(gd (!((!x1) || (!(x2 == x3)))) (sL15Named n a.kind) false).bind fun x4 =>
bif (((!x1) || (!(x2 == x3))) || ((!x4) && (!(seqT a.name (⟨#[]⟩))))) then some false
else (sL15Typed n a.kind).bind fun x5 =>
(sIsNote n a.ty.eta).bind fun x6 =>
(gd (!(!(x5 == x6))) (sL15Typed n a.kind) false).bind fun x7 =>
bif ((!(x5 == x6)) || ((!x7) && ((a.ty.kind != 0) || (decide ((a.ty.args.length : Int) > 0))))) then some false
else (sL15Most n a.kind).bind fun x8 =>
(sL1Max n 0 x8).bind fun x9 =>
(sL1In n a.n 0 x9).bind fun x10 =>
some x10
def sIsAction (n : Nat) (a : Ac) : Option Bool := sIsAction.s n a
def iMostOf.s (n : Nat) (kind : Int) : Option Int :=
bif (kind == 2) then some 2
else bif (kind == 18) then some 2
else bif (kind == 7) then some 999
else bif (kind == 8) then some 1
else some (-1)
def iMostOf (n : Nat) (kind : Int) : Option Int := iMostOf.s n kind
def iIsNamed.s (n : Nat) (kind : Int) : Option Bool :=
some (((kind == 6) || (kind == 9)) || (kind == 20))
def iIsNamed (n : Nat) (kind : Int) : Option Bool := iIsNamed.s n kind
def iIsName.l2s (n : Nat) (l2 : ByteArray → Int → Option Bool) (s : ByteArray) (i : Int) : Option Bool :=
bif (decide (i < (s.size : Int))) then (byteT s i).bind fun x1 =>
(gd (decide (x1 ≥ 97)) (byteT s i) 0).bind fun x2 =>
(gd ((!((decide (x1 ≥ 97)) && (decide (x2 ≤ 122)))) && (!(i == 0))) (byteT s i) 0).bind fun x3 =>
(gd ((!((decide (x1 ≥ 97)) && (decide (x2 ≤ 122)))) && (!((i == 0) || (decide (x3 < 48))))) (byteT s i) 0).bind fun x4 =>
bif ((!((decide (x1 ≥ 97)) && (decide (x2 ≤ 122)))) && (((i == 0) || (decide (x3 < 48))) || (decide (x4 > 57)))) then some false
else l2 s (w64 (i + 1))
else some (((((decide ((s.size : Int) ≥ 1)) && (decide ((s.size : Int) ≤ 5))) && (!(seqT s (⟨#[105, 102]⟩ : ByteArray)))) && (!(seqT s (⟨#[102, 115, 116]⟩ : ByteArray)))) && (!(seqT s (⟨#[115, 110, 100]⟩ : ByteArray))))
def iIsName.l2 (n : Nat) : Nat → ByteArray → Int → Option Bool
  | 0, _, _ => none
  | m + 1, s, i => iIsName.l2s n (iIsName.l2 n m) s i
def iIsName.s (n : Nat) (l2 : ByteArray → Int → Option Bool) (s : ByteArray) : Option Bool :=
l2 s 0
def iIsName (n : Nat) (s : ByteArray) : Option Bool := iIsName.s n (iIsName.l2 n n) s
def iIsTyped.s (n : Nat) (kind : Int) : Option Bool :=
some (((kind == 9) || (kind == 17)) || (kind == 19))
def iIsTyped (n : Nat) (kind : Int) : Option Bool := iIsTyped.s n kind
def iSizeOfType.l3s (n : Nat) (r_iSizeOfType : Ty → Option Int) (l3 : Int → (List Ty) → Int → Int → Option Int) (n_ : Int) (t7 : List Ty) (t8 : Int) (t9 : Int) : Option Int :=
bif (decide (t9 < t8)) then (nthT t7 t9).bind fun x1 =>
(r_iSizeOfType x1.eta).bind fun x2 =>
l3 (w64 (n_ + x2)) t7 t8 (w64 (t9 + 1))
else some n_
def iSizeOfType.l3 (n : Nat) (r_iSizeOfType : Ty → Option Int) : Nat → Int → (List Ty) → Int → Int → Option Int
  | 0, _, _, _, _ => none
  | m + 1, n_, t7, t8, t9 => iSizeOfType.l3s n r_iSizeOfType (iSizeOfType.l3 n r_iSizeOfType m) n_ t7 t8 t9
def iSizeOfType.s (n : Nat) (r_iSizeOfType : Ty → Option Int) (l3 : Int → (List Ty) → Int → Int → Option Int) (t : Ty) : Option Int :=
l3 1 t.args (t.args.length : Int) 0
def iSizeOfType : Nat → Ty → Option Int
  | 0, _ => none
  | n + 1, t => iSizeOfType.s n (iSizeOfType n) (iSizeOfType.l3 n (iSizeOfType n) n) t
def iDepthOfType.l3s (n : Nat) (r_iDepthOfType : Ty → Option Int) (l3 : Int → (List Ty) → Int → Int → Option Int) (n_ : Int) (t7 : List Ty) (t8 : Int) (t9 : Int) : Option Int :=
bif (decide (t9 < t8)) then (nthT t7 t9).bind fun x1 =>
(r_iDepthOfType x1.eta).bind fun x2 =>
l3 (max n_ x2) t7 t8 (w64 (t9 + 1))
else some (w64 (n_ + 1))
def iDepthOfType.l3 (n : Nat) (r_iDepthOfType : Ty → Option Int) : Nat → Int → (List Ty) → Int → Int → Option Int
  | 0, _, _, _, _ => none
  | m + 1, n_, t7, t8, t9 => iDepthOfType.l3s n r_iDepthOfType (iDepthOfType.l3 n r_iDepthOfType m) n_ t7 t8 t9
def iDepthOfType.s (n : Nat) (r_iDepthOfType : Ty → Option Int) (l3 : Int → (List Ty) → Int → Int → Option Int) (t : Ty) : Option Int :=
l3 0 t.args (t.args.length : Int) 0
def iDepthOfType : Nat → Ty → Option Int
  | 0, _ => none
  | n + 1, t => iDepthOfType.s n (iDepthOfType n) (iDepthOfType.l3 n (iDepthOfType n) n) t
def iAreTypeNodes.s (n : Nat) (r_iAreTypeNodes : Ty → Option Bool) (r_zContainsFunc_Type_AreTypeNodes_1 : (List Ty) → Option Bool) (r_zIndexFunc_Type_AreTypeNodes_1 : (List Ty) → Option Int) (r_iAreTypeNodes_1 : Ty → Option Bool) (t : Ty) : Option Bool :=
bif (t.kind == 1) then (gd ((t.args.length : Int) == 0) (r_zContainsFunc_Type_AreTypeNodes_1 t.args) false).bind fun x1 =>
some (((t.args.length : Int) == 0) && (!x1))
else bif (t.kind == 2) then (gd ((t.args.length : Int) == 0) (r_zContainsFunc_Type_AreTypeNodes_1 t.args) false).bind fun x2 =>
some (((t.args.length : Int) == 0) && (!x2))
else bif (t.kind == 3) then (gd ((t.args.length : Int) == 0) (r_zContainsFunc_Type_AreTypeNodes_1 t.args) false).bind fun x3 =>
some (((t.args.length : Int) == 0) && (!x3))
else bif (t.kind == 4) then (gd ((t.args.length : Int) == 2) (r_zContainsFunc_Type_AreTypeNodes_1 t.args) false).bind fun x4 =>
some (((t.args.length : Int) == 2) && (!x4))
else bif (t.kind == 5) then (gd ((t.args.length : Int) == 2) (r_zContainsFunc_Type_AreTypeNodes_1 t.args) false).bind fun x5 =>
some (((t.args.length : Int) == 2) && (!x5))
else some false
def zContainsFunc_Type_AreTypeNodes_1.s (n : Nat) (r_iAreTypeNodes : Ty → Option Bool) (r_zContainsFunc_Type_AreTypeNodes_1 : (List Ty) → Option Bool) (r_zIndexFunc_Type_AreTypeNodes_1 : (List Ty) → Option Int) (r_iAreTypeNodes_1 : Ty → Option Bool) (s : List Ty) : Option Bool :=
(r_zIndexFunc_Type_AreTypeNodes_1 s).bind fun x1 =>
some (decide (x1 ≥ 0))
def zIndexFunc_Type_AreTypeNodes_1.l2s (n : Nat) (r_iAreTypeNodes : Ty → Option Bool) (r_zContainsFunc_Type_AreTypeNodes_1 : (List Ty) → Option Bool) (r_zIndexFunc_Type_AreTypeNodes_1 : (List Ty) → Option Int) (r_iAreTypeNodes_1 : Ty → Option Bool) (l2 : (List Ty) → Int → Int → Option Int) (s : List Ty) (t7 : Int) (t8 : Int) : Option Int :=
bif (decide (t8 < t7)) then (nthT s t8).bind fun x1 =>
(r_iAreTypeNodes_1 x1.eta).bind fun x2 =>
bif x2 then some t8
else l2 s t7 (w64 (t8 + 1))
else some (-1)
def zIndexFunc_Type_AreTypeNodes_1.l2 (n : Nat) (r_iAreTypeNodes : Ty → Option Bool) (r_zContainsFunc_Type_AreTypeNodes_1 : (List Ty) → Option Bool) (r_zIndexFunc_Type_AreTypeNodes_1 : (List Ty) → Option Int) (r_iAreTypeNodes_1 : Ty → Option Bool) : Nat → (List Ty) → Int → Int → Option Int
  | 0, _, _, _ => none
  | m + 1, s, t7, t8 => zIndexFunc_Type_AreTypeNodes_1.l2s n r_iAreTypeNodes r_zContainsFunc_Type_AreTypeNodes_1 r_zIndexFunc_Type_AreTypeNodes_1 r_iAreTypeNodes_1 (zIndexFunc_Type_AreTypeNodes_1.l2 n r_iAreTypeNodes r_zContainsFunc_Type_AreTypeNodes_1 r_zIndexFunc_Type_AreTypeNodes_1 r_iAreTypeNodes_1 m) s t7 t8
def zIndexFunc_Type_AreTypeNodes_1.s (n : Nat) (r_iAreTypeNodes : Ty → Option Bool) (r_zContainsFunc_Type_AreTypeNodes_1 : (List Ty) → Option Bool) (r_zIndexFunc_Type_AreTypeNodes_1 : (List Ty) → Option Int) (r_iAreTypeNodes_1 : Ty → Option Bool) (l2 : (List Ty) → Int → Int → Option Int) (s : List Ty) : Option Int :=
l2 s (s.length : Int) 0
def iAreTypeNodes_1.s (n : Nat) (r_iAreTypeNodes : Ty → Option Bool) (r_zContainsFunc_Type_AreTypeNodes_1 : (List Ty) → Option Bool) (r_zIndexFunc_Type_AreTypeNodes_1 : (List Ty) → Option Int) (r_iAreTypeNodes_1 : Ty → Option Bool) (a : Ty) : Option Bool :=
(r_iAreTypeNodes a.eta).bind fun x1 =>
some (!x1)
def iAreTypeNodes.g : Nat → (Ty → Option Bool) × ((List Ty) → Option Bool) × ((List Ty) → Option Int) × (Ty → Option Bool)
  | 0 => (fun _ => none, fun _ => none, fun _ => none, fun _ => none)
  | n + 1 => (iAreTypeNodes.s n (iAreTypeNodes.g n).1 (iAreTypeNodes.g n).2.1 (iAreTypeNodes.g n).2.2.1 (iAreTypeNodes.g n).2.2.2, zContainsFunc_Type_AreTypeNodes_1.s n (iAreTypeNodes.g n).1 (iAreTypeNodes.g n).2.1 (iAreTypeNodes.g n).2.2.1 (iAreTypeNodes.g n).2.2.2, zIndexFunc_Type_AreTypeNodes_1.s n (iAreTypeNodes.g n).1 (iAreTypeNodes.g n).2.1 (iAreTypeNodes.g n).2.2.1 (iAreTypeNodes.g n).2.2.2 (zIndexFunc_Type_AreTypeNodes_1.l2 n (iAreTypeNodes.g n).1 (iAreTypeNodes.g n).2.1 (iAreTypeNodes.g n).2.2.1 (iAreTypeNodes.g n).2.2.2 n), iAreTypeNodes_1.s n (iAreTypeNodes.g n).1 (iAreTypeNodes.g n).2.1 (iAreTypeNodes.g n).2.2.1 (iAreTypeNodes.g n).2.2.2)
def iAreTypeNodes (n : Nat) : Ty → Option Bool := (iAreTypeNodes.g n).1
def zContainsFunc_Type_AreTypeNodes_1 (n : Nat) : (List Ty) → Option Bool := (iAreTypeNodes.g n).2.1
def zIndexFunc_Type_AreTypeNodes_1 (n : Nat) : (List Ty) → Option Int := (iAreTypeNodes.g n).2.2.1
def iAreTypeNodes_1 (n : Nat) : Ty → Option Bool := (iAreTypeNodes.g n).2.2.2
def iIsValidType.s (n : Nat) (t : Ty) : Option Bool :=
(iSizeOfType n t.eta).bind fun x1 =>
(gd (decide (x1 ≤ 800)) (iDepthOfType n t.eta) 0).bind fun x2 =>
(gd ((decide (x1 ≤ 800)) && (decide (x2 ≤ 24))) (iAreTypeNodes n t.eta) false).bind fun x3 =>
some (((decide (x1 ≤ 800)) && (decide (x2 ≤ 24))) && x3)
def iIsValidType (n : Nat) (t : Ty) : Option Bool := iIsValidType.s n t
def iIsNote.s (n : Nat) (t : Ty) : Option Bool :=
(iIsValidType n t.eta).bind fun x1 =>
(gd x1 (iSizeOfType n t.eta) 0).bind fun x2 =>
(gd (x1 && (decide (x2 ≤ 15))) (iDepthOfType n t.eta) 0).bind fun x3 =>
some ((x1 && (decide (x2 ≤ 15))) && (decide (x3 ≤ 5)))
def iIsNote (n : Nat) (t : Ty) : Option Bool := iIsNote.s n t
def iIsAction.s (n : Nat) (a0 : Ac) : Option Bool :=
(gd (!(((decide (a0.kind < 1)) || (decide (a0.kind > 20))) || (decide (a0.n < 0)))) (iMostOf n a0.kind) 0).bind fun x1 =>
bif ((((decide (a0.kind < 1)) || (decide (a0.kind > 20))) || (decide (a0.n < 0))) || (decide (a0.n > (max 0 x1)))) then some false
else (iIsNamed n a0.kind).bind fun x2 =>
(gd x2 (iIsName n a0.name) false).bind fun x3 =>
(gd (!(x2 && (!x3))) (iIsNamed n a0.kind) false).bind fun x4 =>
bif ((x2 && (!x3)) || ((!x4) && (!(seqT a0.name (⟨#[]⟩))))) then some false
else (iIsTyped n a0.kind).bind fun x5 =>
(gd x5 (iIsNote n a0.ty.eta) false).bind fun x6 =>
(gd (!(x5 && x6)) (iIsTyped n a0.kind) false).bind fun x7 =>
(gd ((!(x5 && x6)) && (!x7)) (iEqualType n a0.ty.eta (Ty.mk 0 ([]))) false).bind fun x8 =>
some ((x5 && x6) || ((!x7) && x8))
def iIsAction (n : Nat) (a0 : Ac) : Option Bool := iIsAction.s n a0
def lEqAction.s (n : Nat) (a : Ac) (b : Ac) : Option Bool :=
bif (a.kind != b.kind) then some false
else bif (!(seqT a.name b.name)) then some false
else bif (a.n != b.n) then some false
else (lEqType n a.ty.eta b.ty.eta).bind fun x1 =>
bif (!x1) then some false
else some true
def lEqAction (n : Nat) (a : Ac) (b : Ac) : Option Bool := lEqAction.s n a b
def lFnExactIsAction.s (n : Nat) (aA : Ac) : Option Bool :=
(lSzAction n aA.eta 1048576).bind fun x1 =>
bif (decide (x1 < 0)) then some true
else (lToAction n aA.eta).bind fun x2 =>
(sIsAction n x2.eta).bind fun x3 =>
(lToAction n aA.eta).bind fun x4 =>
(iIsAction n x4.eta).bind fun x5 =>
bif (!(x5 == x3)) then some false
else (lToAction n aA.eta).bind fun x6 =>
(lEqAction n x4.eta x6.eta).bind fun x7 =>
bif (!x7) then some false
else some true
def lFnExactIsAction (n : Nat) (aA : Ac) : Option Bool := lFnExactIsAction.s n aA
def sEqualBinds.l4s (n : Nat) (l4 : (List Bi) → (List Bi) → Int → Option Bool) (a : List Bi) (b : List Bi) (k : Int) : Option Bool :=
bif (decide (k < (a.length : Int))) then (nthT a k).bind fun x1 =>
(nthT b k).bind fun x2 =>
(gd (!(!(seqT x1.1 x2.1))) (nthT a k) (UU.dflt 6)).bind fun x3 =>
(gd (!(!(seqT x1.1 x2.1))) (nthT b k) (UU.dflt 6)).bind fun x4 =>
(gd (!(!(seqT x1.1 x2.1))) (sEqualCore n x3.2.eta x4.2.eta) false).bind fun x5 =>
bif ((!(seqT x1.1 x2.1)) || (!x5)) then some false
else l4 a b (w64 (k + 1))
else some true
def sEqualBinds.l4 (n : Nat) : Nat → (List Bi) → (List Bi) → Int → Option Bool
  | 0, _, _, _ => none
  | m + 1, a, b, k => sEqualBinds.l4s n (sEqualBinds.l4 n m) a b k
def sEqualBinds.s (n : Nat) (l4 : (List Bi) → (List Bi) → Int → Option Bool) (a : List Bi) (b : List Bi) : Option Bool :=
bif ((a.length : Int) != (b.length : Int)) then some false
else l4 a b 0
def sEqualBinds (n : Nat) (a : List Bi) (b : List Bi) : Option Bool := sEqualBinds.s n (sEqualBinds.l4 n n) a b
def iEqualBinds.s (n : Nat) (a : List Bi) (b : List Bi) : Option Bool :=
(zEqualFunc_CoreBind_EqualBind n a b).bind fun x1 =>
some x1
def iEqualBinds (n : Nat) (a : List Bi) (b : List Bi) : Option Bool := iEqualBinds.s n a b
def lFnExactEqualBinds.s (n : Nat) (aA : List Bi) (aB : List Bi) : Option Bool :=
(lSzCoreBindS n aA 1048576).bind fun x1 =>
bif (decide (x1 < 0)) then some true
else (lSzCoreBindS n aB x1).bind fun x2 =>
bif (decide (x2 < 0)) then some true
else (lToCoreBindS n aA).bind fun x3 =>
(lToCoreBindS n aB).bind fun x4 =>
(sEqualBinds n x3 x4).bind fun x5 =>
(lToCoreBindS n aA).bind fun x6 =>
(lToCoreBindS n aB).bind fun x7 =>
(iEqualBinds n x6 x7).bind fun x8 =>
bif (!(x8 == x5)) then some false
else (lToCoreBindS n aA).bind fun x9 =>
(lEqCoreBindS n x6 x9).bind fun x10 =>
bif (!x10) then some false
else (lToCoreBindS n aB).bind fun x11 =>
(lEqCoreBindS n x7 x11).bind fun x12 =>
bif (!x12) then some false
else some true
def lFnExactEqualBinds (n : Nat) (aA : List Bi) (aB : List Bi) : Option Bool := lFnExactEqualBinds.s n aA aB
def lSzClosure.s (n : Nat) (a : Cl) (left_ : Int) : Option Int :=
(lSzCoreBindS n a.env left_).bind fun x1 =>
bif (decide (x1 < 0)) then some (-1)
else some x1
def lSzClosure (n : Nat) (a : Cl) (left_ : Int) : Option Int := lSzClosure.s n a left_
def lToClosure.s (n : Nat) (a : Cl) : Option Cl :=
(lToCoreBindS n a.env).bind fun x1 =>
some (Cl.mk a.n a.mark x1)
def lToClosure (n : Nat) (a : Cl) : Option Cl := lToClosure.s n a
def sEqualClosure.s (n : Nat) (a : Cl) (b : Cl) : Option Bool :=
(gd ((a.n == b.n) && (a.mark == b.mark)) (sEqualBinds n a.env b.env) false).bind fun x1 =>
some (((a.n == b.n) && (a.mark == b.mark)) && x1)
def sEqualClosure (n : Nat) (a : Cl) (b : Cl) : Option Bool := sEqualClosure.s n a b
def iEqualClosure.s (n : Nat) (a : Cl) (b : Cl) : Option Bool :=
(gd ((a.n == b.n) && (a.mark == b.mark)) (iEqualBinds n a.env b.env) false).bind fun x1 =>
some (((a.n == b.n) && (a.mark == b.mark)) && x1)
def iEqualClosure (n : Nat) (a : Cl) (b : Cl) : Option Bool := iEqualClosure.s n a b
def lEqClosure.s (n : Nat) (a : Cl) (b : Cl) : Option Bool :=
bif (a.n != b.n) then some false
else bif (!(a.mark == b.mark)) then some false
else (lEqCoreBindS n a.env b.env).bind fun x1 =>
bif (!x1) then some false
else some true
def lEqClosure (n : Nat) (a : Cl) (b : Cl) : Option Bool := lEqClosure.s n a b
def lFnExactEqualClosure.s (n : Nat) (aA : Cl) (aB : Cl) : Option Bool :=
(lSzClosure n aA.eta 1048576).bind fun x1 =>
bif (decide (x1 < 0)) then some true
else (lSzClosure n aB.eta x1).bind fun x2 =>
bif (decide (x2 < 0)) then some true
else (lToClosure n aA.eta).bind fun x3 =>
(lToClosure n aB.eta).bind fun x4 =>
(sEqualClosure n x3.eta x4.eta).bind fun x5 =>
(lToClosure n aA.eta).bind fun x6 =>
(lToClosure n aB.eta).bind fun x7 =>
(iEqualClosure n x6.eta x7.eta).bind fun x8 =>
bif (!(x8 == x5)) then some false
else (lToClosure n aA.eta).bind fun x9 =>
(lEqClosure n x6.eta x9.eta).bind fun x10 =>
bif (!x10) then some false
else (lToClosure n aB.eta).bind fun x11 =>
(lEqClosure n x7.eta x11.eta).bind fun x12 =>
bif (!x12) then some false
else some true
def lFnExactEqualClosure (n : Nat) (aA : Cl) (aB : Cl) : Option Bool := lFnExactEqualClosure.s n aA aB
def lSzEditS.l5s (n : Nat) (l5 : (List Ed) → Int → Int → Option Int) (a : List Ed) (left_ : Int) (i : Int) : Option Int :=
bif (decide (i < (a.length : Int))) then (nthT a i).bind fun x1 =>
(lSzEdit n x1.eta left_).bind fun x2 =>
bif (decide (x2 < 0)) then some (-1)
else l5 a x2 (w64 (i + 1))
else some left_
def lSzEditS.l5 (n : Nat) : Nat → (List Ed) → Int → Int → Option Int
  | 0, _, _, _ => none
  | m + 1, a, left_, i => lSzEditS.l5s n (lSzEditS.l5 n m) a left_ i
def lSzEditS.s (n : Nat) (l5 : (List Ed) → Int → Int → Option Int) (a : List Ed) (left_ : Int) : Option Int :=
bif (decide ((w64 (left_ - (a.length : Int))) < 0)) then some (-1)
else l5 a (w64 (left_ - (a.length : Int))) 0
def lSzEditS (n : Nat) (a : List Ed) (left_ : Int) : Option Int := lSzEditS.s n (lSzEditS.l5 n n) a left_
def lSzHistory.s (n : Nat) (a : Hy) (left_ : Int) : Option Int :=
(lSzEditS n a.past left_).bind fun x1 =>
bif (decide (x1 < 0)) then some (-1)
else (lSzEdit n a.now.eta x1).bind fun x2 =>
bif (decide (x2 < 0)) then some (-1)
else (lSzEditS n a.next x2).bind fun x3 =>
bif (decide (x3 < 0)) then some (-1)
else some x3
def lSzHistory (n : Nat) (a : Hy) (left_ : Int) : Option Int := lSzHistory.s n a left_
def lToEditS.l3s (n : Nat) (l3 : (List Ed) → Int → Int → (List Ed) → Option (List Ed)) (a : List Ed) (out : Int) (i : Int) (b7 : List Ed) : Option (List Ed) :=
bif (decide (i < (a.length : Int))) then (nthT a i).bind fun x1 =>
(lToEdit n x1.eta).bind fun x2 =>
(if inT i out.toNat then some i else none).bind fun x3 =>
bif inT x3 b7.length then l3 a out (w64 (i + 1)) (b7.set x3.toNat x2.eta)
else none
else bif Nat.beq b7.length out.toNat then some b7
else none
def lToEditS.l3 (n : Nat) : Nat → (List Ed) → Int → Int → (List Ed) → Option (List Ed)
  | 0, _, _, _, _ => none
  | m + 1, a, out, i, b7 => lToEditS.l3s n (lToEditS.l3 n m) a out i b7
def lToEditS.s (n : Nat) (l3 : (List Ed) → Int → Int → (List Ed) → Option (List Ed)) (a : List Ed) : Option (List Ed) :=
bif makeT (a.length : Int) 112 then l3 a (a.length : Int) 0 (List.replicate (a.length : Int).toNat (UU.dflt 9))
else none
def lToEditS (n : Nat) (a : List Ed) : Option (List Ed) := lToEditS.s n (lToEditS.l3 n n) a
def lToHistory.s (n : Nat) (a : Hy) : Option Hy :=
(lToEditS n a.past).bind fun x1 =>
(lToEdit n a.now.eta).bind fun x2 =>
(lToEditS n a.next).bind fun x3 =>
some (Hy.mk x1 x2.eta x3)
def lToHistory (n : Nat) (a : Hy) : Option Hy := lToHistory.s n a
def sL17Same.l4s (n : Nat) (l4 : (List Ed) → (List Ed) → Int → Option Bool) (a : List Ed) (b : List Ed) (k : Int) : Option Bool :=
bif (decide (k < (a.length : Int))) then (nthT a k).bind fun x1 =>
(nthT b k).bind fun x2 =>
(sEqualEdit n x1.eta x2.eta).bind fun x3 =>
bif (!x3) then some false
else l4 a b (w64 (k + 1))
else some true
def sL17Same.l4 (n : Nat) : Nat → (List Ed) → (List Ed) → Int → Option Bool
  | 0, _, _, _ => none
  | m + 1, a, b, k => sL17Same.l4s n (sL17Same.l4 n m) a b k
def sL17Same.s (n : Nat) (l4 : (List Ed) → (List Ed) → Int → Option Bool) (a : List Ed) (b : List Ed) : Option Bool :=
bif ((a.length : Int) != (b.length : Int)) then some false
else l4 a b 0
def sL17Same (n : Nat) (a : List Ed) (b : List Ed) : Option Bool := sL17Same.s n (sL17Same.l4 n n) a b
def sEqualHistory.s (n : Nat) (a : Hy) (b : Hy) : Option Bool :=
(sL17Same n a.past b.past).bind fun x1 =>
(gd x1 (sEqualEdit n a.now.eta b.now.eta) false).bind fun x2 =>
(gd (x1 && x2) (sL17Same n a.next b.next) false).bind fun x3 =>
some ((x1 && x2) && x3)
def sEqualHistory (n : Nat) (a : Hy) (b : Hy) : Option Bool := sEqualHistory.s n a b
def zEqualFunc_Edit_EqualEdit.l4s (n : Nat) (l4 : (List Ed) → (List Ed) → Int → Int → Option Bool) (s2 : List Ed) (t15 : List Ed) (t16 : Int) (t17 : Int) : Option Bool :=
bif (decide (t17 < t16)) then (nthT t15 t17).bind fun x1 =>
(nthT s2 t17).bind fun x2 =>
(iEqualEdit n x1.eta x2.eta).bind fun x3 =>
bif (!x3) then some false
else l4 s2 t15 t16 (w64 (t17 + 1))
else some true
def zEqualFunc_Edit_EqualEdit.l4 (n : Nat) : Nat → (List Ed) → (List Ed) → Int → Int → Option Bool
  | 0, _, _, _, _ => none
  | m + 1, s2, t15, t16, t17 => zEqualFunc_Edit_EqualEdit.l4s n (zEqualFunc_Edit_EqualEdit.l4 n m) s2 t15 t16 t17
def zEqualFunc_Edit_EqualEdit.s (n : Nat) (l4 : (List Ed) → (List Ed) → Int → Int → Option Bool) (s1 : List Ed) (s2 : List Ed) : Option Bool :=
bif ((s1.length : Int) != (s2.length : Int)) then some false
else l4 s2 s1 (s1.length : Int) 0
def zEqualFunc_Edit_EqualEdit (n : Nat) (s1 : List Ed) (s2 : List Ed) : Option Bool := zEqualFunc_Edit_EqualEdit.s n (zEqualFunc_Edit_EqualEdit.l4 n n) s1 s2
def iEqualHistory.s (n : Nat) (a : Hy) (b : Hy) : Option Bool :=
(zEqualFunc_Edit_EqualEdit n a.past b.past).bind fun x1 =>
(gd x1 (iEqualEdit n a.now.eta b.now.eta) false).bind fun x2 =>
(gd (x1 && x2) (zEqualFunc_Edit_EqualEdit n a.next b.next) false).bind fun x3 =>
some ((x1 && x2) && x3)
def iEqualHistory (n : Nat) (a : Hy) (b : Hy) : Option Bool := iEqualHistory.s n a b
def lEqEditS.l4s (n : Nat) (l4 : (List Ed) → (List Ed) → Int → Option Bool) (a : List Ed) (b : List Ed) (i : Int) : Option Bool :=
bif (decide (i < (a.length : Int))) then (nthT a i).bind fun x1 =>
(nthT b i).bind fun x2 =>
(lEqEdit n x1.eta x2.eta).bind fun x3 =>
bif (!x3) then some false
else l4 a b (w64 (i + 1))
else some true
def lEqEditS.l4 (n : Nat) : Nat → (List Ed) → (List Ed) → Int → Option Bool
  | 0, _, _, _ => none
  | m + 1, a, b, i => lEqEditS.l4s n (lEqEditS.l4 n m) a b i
def lEqEditS.s (n : Nat) (l4 : (List Ed) → (List Ed) → Int → Option Bool) (a : List Ed) (b : List Ed) : Option Bool :=
bif ((a.length : Int) != (b.length : Int)) then some false
else l4 a b 0
def lEqEditS (n : Nat) (a : List Ed) (b : List Ed) : Option Bool := lEqEditS.s n (lEqEditS.l4 n n) a b
def lEqHistory.s (n : Nat) (a : Hy) (b : Hy) : Option Bool :=
(lEqEditS n a.past b.past).bind fun x1 =>
bif (!x1) then some false
else (lEqEdit n a.now.eta b.now.eta).bind fun x2 =>
bif (!x2) then some false
else (lEqEditS n a.next b.next).bind fun x3 =>
bif (!x3) then some false
else some true
def lEqHistory (n : Nat) (a : Hy) (b : Hy) : Option Bool := lEqHistory.s n a b
def lFnExactEqualHistory.s (n : Nat) (aA : Hy) (aB : Hy) : Option Bool :=
(lSzHistory n aA.eta 1048576).bind fun x1 =>
bif (decide (x1 < 0)) then some true
else (lSzHistory n aB.eta x1).bind fun x2 =>
bif (decide (x2 < 0)) then some true
else (lToHistory n aA.eta).bind fun x3 =>
(lToHistory n aB.eta).bind fun x4 =>
(sEqualHistory n x3.eta x4.eta).bind fun x5 =>
(lToHistory n aA.eta).bind fun x6 =>
(lToHistory n aB.eta).bind fun x7 =>
(iEqualHistory n x6.eta x7.eta).bind fun x8 =>
bif (!(x8 == x5)) then some false
else (lToHistory n aA.eta).bind fun x9 =>
(lEqHistory n x6.eta x9.eta).bind fun x10 =>
bif (!x10) then some false
else (lToHistory n aB.eta).bind fun x11 =>
(lEqHistory n x7.eta x11.eta).bind fun x12 =>
bif (!x12) then some false
else some true
def lFnExactEqualHistory (n : Nat) (aA : Hy) (aB : Hy) : Option Bool := lFnExactEqualHistory.s n aA aB
def sUnknownType.s (n : Nat)  : Option Ty :=
some (Ty.mk 1 ([]))
def sUnknownType (n : Nat)  : Option Ty := sUnknownType.s n
def sGroundOf.s (n : Nat) (t : Ty) : Option Ty :=
(sIsValidType n t.eta).bind fun x1 =>
bif ((!x1) || (t.kind == 1)) then some (Ty.mk 0 ([]))
else bif ((t.args.length : Int) == 0) then some (Ty.mk t.kind ([]))
else (sUnknownType n).bind fun x2 =>
(sUnknownType n).bind fun x3 =>
some (Ty.mk t.kind ([x2.eta, x3.eta]))
def sGroundOf (n : Nat) (t : Ty) : Option Ty := sGroundOf.s n t
def sIsGround.s (n : Nat) (t : Ty) : Option Bool :=
(sIsValidType n t.eta).bind fun x1 =>
(gd (x1 && (t.kind != 1)) (sGroundOf n t.eta) (UU.dflt 3)).bind fun x2 =>
(gd (x1 && (t.kind != 1)) (sEqualType n t.eta x2.eta) false).bind fun x3 =>
some ((x1 && (t.kind != 1)) && x3)
def sIsGround (n : Nat) (t : Ty) : Option Bool := sIsGround.s n t
def sIsBoxed.s (n : Nat) (d : Co) : Option Bool :=
(gd (d.kind == 14) (sIsGround n d.fr.eta) false).bind fun x1 =>
(gd ((d.kind == 14) && x1) (sUnknownType n) (UU.dflt 3)).bind fun x2 =>
(gd ((d.kind == 14) && x1) (sEqualType n d.ty.eta x2.eta) false).bind fun x3 =>
some ((((d.kind == 14) && x1) && x3) && ((d.args.length : Int) == 1))
def sIsBoxed (n : Nat) (d : Co) : Option Bool := sIsBoxed.s n d
def iUnknownType.s (n : Nat)  : Option Ty :=
some (Ty.mk 1 ([]))
def iUnknownType (n : Nat)  : Option Ty := iUnknownType.s n
def iGroundOf.s (n : Nat) (t : Ty) : Option Ty :=
(iIsValidType n t.eta).bind fun x1 =>
bif ((!x1) || (t.kind == 1)) then some (Ty.mk 0 ([]))
else bif ((t.args.length : Int) == 0) then some (Ty.mk t.kind ([]))
else (iUnknownType n).bind fun x2 =>
(iUnknownType n).bind fun x3 =>
some (Ty.mk t.kind ([x2.eta, x3.eta]))
def iGroundOf (n : Nat) (t : Ty) : Option Ty := iGroundOf.s n t
def iIsGround.s (n : Nat) (t : Ty) : Option Bool :=
(iGroundOf n t.eta).bind fun x1 =>
(gd (x1.kind != 0) (iEqualType n t.eta x1.eta) false).bind fun x2 =>
some ((x1.kind != 0) && x2)
def iIsGround (n : Nat) (t : Ty) : Option Bool := iIsGround.s n t
def iIsBoxed.s (n : Nat) (d : Co) : Option Bool :=
(gd ((d.kind == 14) && ((d.args.length : Int) == 1)) (iIsGround n d.fr.eta) false).bind fun x1 =>
(gd (((d.kind == 14) && ((d.args.length : Int) == 1)) && x1) (iUnknownType n) (UU.dflt 3)).bind fun x2 =>
(gd (((d.kind == 14) && ((d.args.length : Int) == 1)) && x1) (iEqualType n d.ty.eta x2.eta) false).bind fun x3 =>
some ((((d.kind == 14) && ((d.args.length : Int) == 1)) && x1) && x3)
def iIsBoxed (n : Nat) (d : Co) : Option Bool := iIsBoxed.s n d
def lFnExactIsBoxed.s (n : Nat) (aD : Co) : Option Bool :=
(lSzCore n aD.eta 1048576).bind fun x1 =>
bif (decide (x1 < 0)) then some true
else (lToCore n aD.eta).bind fun x2 =>
(sIsBoxed n x2.eta).bind fun x3 =>
(lToCore n aD.eta).bind fun x4 =>
(iIsBoxed n x4.eta).bind fun x5 =>
bif (!(x5 == x3)) then some false
else (lToCore n aD.eta).bind fun x6 =>
(lEqCore n x4.eta x6.eta).bind fun x7 =>
bif (!x7) then some false
else some true
def lFnExactIsBoxed (n : Nat) (aD : Co) : Option Bool := lFnExactIsBoxed.s n aD
def sL18Left.l3s (n : Nat) (r_sL18Left : Co → Int → Option Int) (l3 : Int → Int → Co → Option Int) (l7 : Int → Int → Co → Option Int) (left_ : Int) (k : Int) (d : Co) : Option Int :=
bif ((decide (k < (d.args.length : Int))) && (decide (left_ ≥ 0))) then (nthT d.args k).bind fun x1 =>
(r_sL18Left x1.eta left_).bind fun x2 =>
l3 x2 (w64 (k + 1)) d.eta
else l7 left_ 0 d.eta
def sL18Left.l7s (n : Nat) (r_sL18Left : Co → Int → Option Int) (l3 : Int → Int → Co → Option Int) (l7 : Int → Int → Co → Option Int) (left_ : Int) (k : Int) (d : Co) : Option Int :=
bif ((decide (k < (d.env.length : Int))) && (decide (left_ ≥ 0))) then (nthT d.env k).bind fun x1 =>
(r_sL18Left x1.2.eta left_).bind fun x2 =>
l7 x2 (w64 (k + 1)) d.eta
else some left_
def sL18Left.ls (n : Nat) (r_sL18Left : Co → Int → Option Int) : Nat → (Int → Int → Co → Option Int) × (Int → Int → Co → Option Int)
  | 0 => (fun _ _ _ => none, fun _ _ _ => none)
  | m + 1 => (sL18Left.l3s n r_sL18Left (sL18Left.ls n r_sL18Left m).1 (sL18Left.ls n r_sL18Left m).2, sL18Left.l7s n r_sL18Left (sL18Left.ls n r_sL18Left m).1 (sL18Left.ls n r_sL18Left m).2)
def sL18Left.l3 (n : Nat) (r_sL18Left : Co → Int → Option Int) (m : Nat) : Int → Int → Co → Option Int := (sL18Left.ls n r_sL18Left m).1
def sL18Left.l7 (n : Nat) (r_sL18Left : Co → Int → Option Int) (m : Nat) : Int → Int → Co → Option Int := (sL18Left.ls n r_sL18Left m).2
def sL18Left.s (n : Nat) (r_sL18Left : Co → Int → Option Int) (l3 : Int → Int → Co → Option Int) (l7 : Int → Int → Co → Option Int) (d : Co) (left_ : Int) : Option Int :=
l3 (w64 (left_ - 1)) 0 d.eta
def sL18Left : Nat → Co → Int → Option Int
  | 0, _, _ => none
  | n + 1, d, left_ => sL18Left.s n (sL18Left n) (sL18Left.l3 n (sL18Left n) n) (sL18Left.l7 n (sL18Left n) n) d left_
def sL18Zero.s (n : Nat) (t : Ty) : Option Bool :=
some ((t.kind == 0) && ((t.args.length : Int) == 0))
def sL18Zero (n : Nat) (t : Ty) : Option Bool := sL18Zero.s n t
def sL18Types.s (n : Nat) (d : Co) : Option Bool :=
(sIsValidType n d.ty.eta).bind fun x1 =>
(gd (!(!((((d.kind == 4) || (d.kind == 14)) || (d.kind == 15)) == x1))) (sIsValidType n d.fr.eta) false).bind fun x2 =>
bif ((!((((d.kind == 4) || (d.kind == 14)) || (d.kind == 15)) == x1)) || (!(((d.kind == 14) || (d.kind == 15)) == x2))) then some false
else (gd (!(((d.kind == 4) || (d.kind == 14)) || (d.kind == 15))) (sL18Zero n d.ty.eta) false).bind fun x3 =>
(gd (((((d.kind == 4) || (d.kind == 14)) || (d.kind == 15)) || x3) && (!((d.kind == 14) || (d.kind == 15)))) (sL18Zero n d.fr.eta) false).bind fun x4 =>
some (((((d.kind == 4) || (d.kind == 14)) || (d.kind == 15)) || x3) && (((d.kind == 14) || (d.kind == 15)) || x4))
def sL18Types (n : Nat) (d : Co) : Option Bool := sL18Types.s n d
def sL18Fields.s (n : Nat) (d : Co) : Option Bool :=
(sIsName n d.name).bind fun x1 =>
(gd (!((!(((d.kind == 3) || (d.kind == 4)) == x1)) || ((!((d.kind == 3) || (d.kind == 4))) && (!(seqT d.name (⟨#[]⟩)))))) (sL18Types n d.eta) false).bind fun x2 =>
bif (((!(((d.kind == 3) || (d.kind == 4)) == x1)) || ((!((d.kind == 3) || (d.kind == 4))) && (!(seqT d.name (⟨#[]⟩))))) || (!x2)) then some false
else bif (d.kind == 1) then (sL1In n d.n 1 99).bind fun x3 =>
some x3
else bif (d.kind == 2) then (sL1In n d.n 1 99).bind fun x4 =>
some x4
else bif (d.kind == 9) then (sL1In n d.n 0 1).bind fun x5 =>
some x5
else bif (d.kind == 6) then some true
else some (d.n == 0)
def sL18Fields (n : Nat) (d : Co) : Option Bool := sL18Fields.s n d
def sIndexOf.l2s (n : Nat) (l2 : (List ByteArray) → ByteArray → Int → Option Int) (list : List ByteArray) (s : ByteArray) (k : Int) : Option Int :=
bif (decide (k < (list.length : Int))) then (nthT list k).bind fun x1 =>
bif (seqT x1 s) then some k
else l2 list s (w64 (k + 1))
else some (-1)
def sIndexOf.l2 (n : Nat) : Nat → (List ByteArray) → ByteArray → Int → Option Int
  | 0, _, _, _ => none
  | m + 1, list, s, k => sIndexOf.l2s n (sIndexOf.l2 n m) list s k
def sIndexOf.s (n : Nat) (l2 : (List ByteArray) → ByteArray → Int → Option Int) (list : List ByteArray) (s : ByteArray) : Option Int :=
l2 list s 0
def sIndexOf (n : Nat) (list : List ByteArray) (s : ByteArray) : Option Int := sIndexOf.s n (sIndexOf.l2 n n) list s
def sCoreArity.s (n : Nat) (kind : Int) : Option Int :=
(sL1In n kind 1 15).bind fun x1 =>
bif (!x1) then some (-1)
else (nthT ([0, 0, 1, 0, 1, 2, 0, 2, 2, 0, 3, 2, 1, 1, 1, 1]) kind).bind fun x2 =>
some x2
def sCoreArity (n : Nat) (kind : Int) : Option Int := sCoreArity.s n kind
def sL18Form.l2s (n : Nat) (r_sL18Form : Co → Option Bool) (r_sL18Env : Co → Option Bool) (l2 : Int → Co → Option Bool) (k : Int) (d : Co) : Option Bool :=
bif (decide (k < (d.args.length : Int))) then (nthT d.args k).bind fun x1 =>
(r_sL18Form x1.eta).bind fun x2 =>
bif (!x2) then some false
else l2 (w64 (k + 1)) d.eta
else (sL18Fields n d.eta).bind fun x3 =>
(gd x3 (r_sL18Env d.eta) false).bind fun x4 =>
(gd (x3 && x4) (sCoreArity n d.kind) 0).bind fun x5 =>
some ((x3 && x4) && ((d.args.length : Int) == x5))
def sL18Form.l2 (n : Nat) (r_sL18Form : Co → Option Bool) (r_sL18Env : Co → Option Bool) : Nat → Int → Co → Option Bool
  | 0, _, _ => none
  | m + 1, k, d => sL18Form.l2s n r_sL18Form r_sL18Env (sL18Form.l2 n r_sL18Form r_sL18Env m) k d
def sL18Form.s (n : Nat) (r_sL18Form : Co → Option Bool) (r_sL18Env : Co → Option Bool) (l2 : Int → Co → Option Bool) (d : Co) : Option Bool :=
l2 0 d.eta
def sL18Env.l3s (n : Nat) (r_sL18Form : Co → Option Bool) (r_sL18Env : Co → Option Bool) (l3 : (List ByteArray) → Int → Co → Option Bool) (names : List ByteArray) (k : Int) (d : Co) : Option Bool :=
bif (decide (k < (d.env.length : Int))) then (nthT d.env k).bind fun x1 =>
(sIsName n x1.1).bind fun x2 =>
(gd (!(!x2)) (nthT d.env k) (UU.dflt 6)).bind fun x3 =>
(gd (!(!x2)) (sIndexOf n names x3.1) 0).bind fun x4 =>
(gd (!((!x2) || (decide (x4 ≥ 0)))) (nthT d.env k) (UU.dflt 6)).bind fun x5 =>
(gd (!((!x2) || (decide (x4 ≥ 0)))) (r_sL18Form x5.2.eta) false).bind fun x6 =>
bif (((!x2) || (decide (x4 ≥ 0))) || (!x6)) then some false
else (nthT d.env k).bind fun x7 =>
bif fitsT names.length ([x7.1]).length 16 then l3 (names ++ ([x7.1])) (w64 (k + 1)) d.eta
else none
else some ((((names.length : Int) == 0) || (d.kind == 1)) || (d.kind == 2))
def sL18Env.l3 (n : Nat) (r_sL18Form : Co → Option Bool) (r_sL18Env : Co → Option Bool) : Nat → (List ByteArray) → Int → Co → Option Bool
  | 0, _, _, _ => none
  | m + 1, names, k, d => sL18Env.l3s n r_sL18Form r_sL18Env (sL18Env.l3 n r_sL18Form r_sL18Env m) names k d
def sL18Env.s (n : Nat) (r_sL18Form : Co → Option Bool) (r_sL18Env : Co → Option Bool) (l3 : (List ByteArray) → Int → Co → Option Bool) (d : Co) : Option Bool :=
l3 ([] : List ByteArray) 0 d.eta
def sL18Form.g : Nat → (Co → Option Bool) × (Co → Option Bool)
  | 0 => (fun _ => none, fun _ => none)
  | n + 1 => (sL18Form.s n (sL18Form.g n).1 (sL18Form.g n).2 (sL18Form.l2 n (sL18Form.g n).1 (sL18Form.g n).2 n), sL18Env.s n (sL18Form.g n).1 (sL18Form.g n).2 (sL18Env.l3 n (sL18Form.g n).1 (sL18Form.g n).2 n))
def sL18Form (n : Nat) : Co → Option Bool := (sL18Form.g n).1
def sL18Env (n : Nat) : Co → Option Bool := (sL18Form.g n).2
def sIsCore.s (n : Nat) (d : Co) : Option Bool :=
(sL18Left n d.eta 600).bind fun x1 =>
(gd (decide (x1 ≥ 0)) (sL18Form n d.eta) false).bind fun x2 =>
some ((decide (x1 ≥ 0)) && x2)
def sIsCore (n : Nat) (d : Co) : Option Bool := sIsCore.s n d
def iCoreArity.s (n : Nat) (kind : Int) : Option Int :=
bif (kind == 1) then some 0
else bif (kind == 3) then some 0
else bif (kind == 6) then some 0
else bif (kind == 9) then some 0
else bif (kind == 2) then some 1
else bif (kind == 4) then some 1
else bif (kind == 14) then some 1
else bif (kind == 15) then some 1
else bif (kind == 12) then some 1
else bif (kind == 13) then some 1
else bif (kind == 5) then some 2
else bif (kind == 7) then some 2
else bif (kind == 8) then some 2
else bif (kind == 11) then some 2
else bif (kind == 10) then some 3
else some (-1)
def iCoreArity (n : Nat) (kind : Int) : Option Int := iCoreArity.s n kind
def iIsHoleNumber.s (n : Nat) (n_ : Int) : Option Bool :=
some ((decide (n_ ≥ 1)) && (decide (n_ ≤ 99)))
def iIsHoleNumber (n : Nat) (n_ : Int) : Option Bool := iIsHoleNumber.s n n_
def iIsCoreNode.s (n : Nat) (a0 : Co) : Option Bool :=
(iCoreArity n a0.kind).bind fun x1 =>
(gd ((!((a0.args.length : Int) != x1)) && ((a0.kind == 3) || (a0.kind == 4))) (iIsName n a0.name) false).bind fun x2 =>
bif ((((a0.args.length : Int) != x1) || (((a0.kind == 3) || (a0.kind == 4)) && (!x2))) || ((!((a0.kind == 3) || (a0.kind == 4))) && (!(seqT a0.name (⟨#[]⟩))))) then some false
else (gd (((a0.kind == 14) || (a0.kind == 15)) || (a0.kind == 4)) (iIsValidType n a0.ty.eta) false).bind fun x3 =>
(gd ((!((((a0.kind == 14) || (a0.kind == 15)) || (a0.kind == 4)) && (!x3))) && (!(((a0.kind == 14) || (a0.kind == 15)) || (a0.kind == 4)))) (iEqualType n a0.ty.eta (Ty.mk 0 ([]))) false).bind fun x4 =>
(gd ((!(((((a0.kind == 14) || (a0.kind == 15)) || (a0.kind == 4)) && (!x3)) || ((!(((a0.kind == 14) || (a0.kind == 15)) || (a0.kind == 4))) && (!x4)))) && ((a0.kind == 14) || (a0.kind == 15))) (iIsValidType n a0.fr.eta) false).bind fun x5 =>
(gd ((!((((((a0.kind == 14) || (a0.kind == 15)) || (a0.kind == 4)) && (!x3)) || ((!(((a0.kind == 14) || (a0.kind == 15)) || (a0.kind == 4))) && (!x4))) || (((a0.kind == 14) || (a0.kind == 15)) && (!x5)))) && (!((a0.kind == 14) || (a0.kind == 15)))) (iEqualType n a0.fr.eta (Ty.mk 0 ([]))) false).bind fun x6 =>
bif (((((((a0.kind == 14) || (a0.kind == 15)) || (a0.kind == 4)) && (!x3)) || ((!(((a0.kind == 14) || (a0.kind == 15)) || (a0.kind == 4))) && (!x4))) || (((a0.kind == 14) || (a0.kind == 15)) && (!x5))) || ((!((a0.kind == 14) || (a0.kind == 15))) && (!x6))) then some false
else bif (a0.kind == 1) then (iIsHoleNumber n a0.n).bind fun x7 =>
some x7
else bif (a0.kind == 2) then (iIsHoleNumber n a0.n).bind fun x8 =>
some x8
else bif (a0.kind == 6) then some true
else bif (a0.kind == 9) then some ((a0.n == 0) || (a0.n == 1))
else some (a0.n == 0)
def iIsCoreNode (n : Nat) (a0 : Co) : Option Bool := iIsCoreNode.s n a0
def iIsHole.s (n : Nat) (d : Co) : Option Bool :=
some ((d.kind == 1) || (d.kind == 2))
def iIsHole (n : Nat) (d : Co) : Option Bool := iIsHole.s n d
def zIndex_Lstring.l2s (n : Nat) (l2 : (List ByteArray) → ByteArray → Int → Int → Option Int) (s : List ByteArray) (v_ : ByteArray) (t7 : Int) (t8 : Int) : Option Int :=
bif (decide (t8 < t7)) then (nthT s t8).bind fun x1 =>
bif (seqT v_ x1) then some t8
else l2 s v_ t7 (w64 (t8 + 1))
else some (-1)
def zIndex_Lstring.l2 (n : Nat) : Nat → (List ByteArray) → ByteArray → Int → Int → Option Int
  | 0, _, _, _, _ => none
  | m + 1, s, v_, t7, t8 => zIndex_Lstring.l2s n (zIndex_Lstring.l2 n m) s v_ t7 t8
def zIndex_Lstring.s (n : Nat) (l2 : (List ByteArray) → ByteArray → Int → Int → Option Int) (s : List ByteArray) (v_ : ByteArray) : Option Int :=
l2 s v_ (s.length : Int) 0
def zIndex_Lstring (n : Nat) (s : List ByteArray) (v_ : ByteArray) : Option Int := zIndex_Lstring.s n (zIndex_Lstring.l2 n n) s v_
def zContains_Lstring.s (n : Nat) (s : List ByteArray) (v_ : ByteArray) : Option Bool :=
(zIndex_Lstring n s v_).bind fun x1 =>
some (decide (x1 ≥ 0))
def zContains_Lstring (n : Nat) (s : List ByteArray) (v_ : ByteArray) : Option Bool := zContains_Lstring.s n s v_
def iAreCoreNodes.l5s (n : Nat) (r_iAreCoreNodes : Co → Option Bool) (r_zContainsFunc_Core_AreCoreNodes_1 : (List Co) → Option Bool) (r_zIndexFunc_Core_AreCoreNodes_1 : (List Co) → Option Int) (r_iAreCoreNodes_1 : Co → Option Bool) (l5 : (List ByteArray) → (List Bi) → Int → Int → Option Bool) (names : List ByteArray) (t26 : List Bi) (t27 : Int) (t28 : Int) : Option Bool :=
bif (decide (t28 < t27)) then (nthT t26 t28).bind fun x1 =>
(iIsName n x1.1).bind fun x2 =>
(gd (!(!x2)) (zContains_Lstring n names x1.1) false).bind fun x3 =>
(gd (!((!x2) || x3)) (r_iAreCoreNodes x1.2.eta) false).bind fun x4 =>
bif (((!x2) || x3) || (!x4)) then some false
else bif fitsT names.length ([x1.1]).length 16 then l5 (names ++ ([x1.1])) t26 t27 (w64 (t28 + 1))
else none
else some true
def iAreCoreNodes.l5 (n : Nat) (r_iAreCoreNodes : Co → Option Bool) (r_zContainsFunc_Core_AreCoreNodes_1 : (List Co) → Option Bool) (r_zIndexFunc_Core_AreCoreNodes_1 : (List Co) → Option Int) (r_iAreCoreNodes_1 : Co → Option Bool) : Nat → (List ByteArray) → (List Bi) → Int → Int → Option Bool
  | 0, _, _, _, _ => none
  | m + 1, names, t26, t27, t28 => iAreCoreNodes.l5s n r_iAreCoreNodes r_zContainsFunc_Core_AreCoreNodes_1 r_zIndexFunc_Core_AreCoreNodes_1 r_iAreCoreNodes_1 (iAreCoreNodes.l5 n r_iAreCoreNodes r_zContainsFunc_Core_AreCoreNodes_1 r_zIndexFunc_Core_AreCoreNodes_1 r_iAreCoreNodes_1 m) names t26 t27 t28
def iAreCoreNodes.s (n : Nat) (r_iAreCoreNodes : Co → Option Bool) (r_zContainsFunc_Core_AreCoreNodes_1 : (List Co) → Option Bool) (r_zIndexFunc_Core_AreCoreNodes_1 : (List Co) → Option Int) (r_iAreCoreNodes_1 : Co → Option Bool) (l5 : (List ByteArray) → (List Bi) → Int → Int → Option Bool) (d : Co) : Option Bool :=
(iIsCoreNode n d.eta).bind fun x1 =>
(gd (!(!x1)) (iIsHole n d.eta) false).bind fun x2 =>
(gd (!((!x1) || ((!x2) && (decide ((d.env.length : Int) > 0))))) (r_zContainsFunc_Core_AreCoreNodes_1 d.args) false).bind fun x3 =>
bif (((!x1) || ((!x2) && (decide ((d.env.length : Int) > 0)))) || x3) then some false
else l5 ([] : List ByteArray) d.env (d.env.length : Int) 0
def zContainsFunc_Core_AreCoreNodes_1.s (n : Nat) (r_iAreCoreNodes : Co → Option Bool) (r_zContainsFunc_Core_AreCoreNodes_1 : (List Co) → Option Bool) (r_zIndexFunc_Core_AreCoreNodes_1 : (List Co) → Option Int) (r_iAreCoreNodes_1 : Co → Option Bool) (s : List Co) : Option Bool :=
(r_zIndexFunc_Core_AreCoreNodes_1 s).bind fun x1 =>
some (decide (x1 ≥ 0))
def zIndexFunc_Core_AreCoreNodes_1.l2s (n : Nat) (r_iAreCoreNodes : Co → Option Bool) (r_zContainsFunc_Core_AreCoreNodes_1 : (List Co) → Option Bool) (r_zIndexFunc_Core_AreCoreNodes_1 : (List Co) → Option Int) (r_iAreCoreNodes_1 : Co → Option Bool) (l2 : (List Co) → Int → Int → Option Int) (s : List Co) (t7 : Int) (t8 : Int) : Option Int :=
bif (decide (t8 < t7)) then (nthT s t8).bind fun x1 =>
(r_iAreCoreNodes_1 x1.eta).bind fun x2 =>
bif x2 then some t8
else l2 s t7 (w64 (t8 + 1))
else some (-1)
def zIndexFunc_Core_AreCoreNodes_1.l2 (n : Nat) (r_iAreCoreNodes : Co → Option Bool) (r_zContainsFunc_Core_AreCoreNodes_1 : (List Co) → Option Bool) (r_zIndexFunc_Core_AreCoreNodes_1 : (List Co) → Option Int) (r_iAreCoreNodes_1 : Co → Option Bool) : Nat → (List Co) → Int → Int → Option Int
  | 0, _, _, _ => none
  | m + 1, s, t7, t8 => zIndexFunc_Core_AreCoreNodes_1.l2s n r_iAreCoreNodes r_zContainsFunc_Core_AreCoreNodes_1 r_zIndexFunc_Core_AreCoreNodes_1 r_iAreCoreNodes_1 (zIndexFunc_Core_AreCoreNodes_1.l2 n r_iAreCoreNodes r_zContainsFunc_Core_AreCoreNodes_1 r_zIndexFunc_Core_AreCoreNodes_1 r_iAreCoreNodes_1 m) s t7 t8
def zIndexFunc_Core_AreCoreNodes_1.s (n : Nat) (r_iAreCoreNodes : Co → Option Bool) (r_zContainsFunc_Core_AreCoreNodes_1 : (List Co) → Option Bool) (r_zIndexFunc_Core_AreCoreNodes_1 : (List Co) → Option Int) (r_iAreCoreNodes_1 : Co → Option Bool) (l2 : (List Co) → Int → Int → Option Int) (s : List Co) : Option Int :=
l2 s (s.length : Int) 0
def iAreCoreNodes_1.s (n : Nat) (r_iAreCoreNodes : Co → Option Bool) (r_zContainsFunc_Core_AreCoreNodes_1 : (List Co) → Option Bool) (r_zIndexFunc_Core_AreCoreNodes_1 : (List Co) → Option Int) (r_iAreCoreNodes_1 : Co → Option Bool) (a : Co) : Option Bool :=
(r_iAreCoreNodes a.eta).bind fun x1 =>
some (!x1)
def iAreCoreNodes.g : Nat → (Co → Option Bool) × ((List Co) → Option Bool) × ((List Co) → Option Int) × (Co → Option Bool)
  | 0 => (fun _ => none, fun _ => none, fun _ => none, fun _ => none)
  | n + 1 => (iAreCoreNodes.s n (iAreCoreNodes.g n).1 (iAreCoreNodes.g n).2.1 (iAreCoreNodes.g n).2.2.1 (iAreCoreNodes.g n).2.2.2 (iAreCoreNodes.l5 n (iAreCoreNodes.g n).1 (iAreCoreNodes.g n).2.1 (iAreCoreNodes.g n).2.2.1 (iAreCoreNodes.g n).2.2.2 n), zContainsFunc_Core_AreCoreNodes_1.s n (iAreCoreNodes.g n).1 (iAreCoreNodes.g n).2.1 (iAreCoreNodes.g n).2.2.1 (iAreCoreNodes.g n).2.2.2, zIndexFunc_Core_AreCoreNodes_1.s n (iAreCoreNodes.g n).1 (iAreCoreNodes.g n).2.1 (iAreCoreNodes.g n).2.2.1 (iAreCoreNodes.g n).2.2.2 (zIndexFunc_Core_AreCoreNodes_1.l2 n (iAreCoreNodes.g n).1 (iAreCoreNodes.g n).2.1 (iAreCoreNodes.g n).2.2.1 (iAreCoreNodes.g n).2.2.2 n), iAreCoreNodes_1.s n (iAreCoreNodes.g n).1 (iAreCoreNodes.g n).2.1 (iAreCoreNodes.g n).2.2.1 (iAreCoreNodes.g n).2.2.2)
def iAreCoreNodes (n : Nat) : Co → Option Bool := (iAreCoreNodes.g n).1
def zContainsFunc_Core_AreCoreNodes_1 (n : Nat) : (List Co) → Option Bool := (iAreCoreNodes.g n).2.1
def zIndexFunc_Core_AreCoreNodes_1 (n : Nat) : (List Co) → Option Int := (iAreCoreNodes.g n).2.2.1
def iAreCoreNodes_1 (n : Nat) : Co → Option Bool := (iAreCoreNodes.g n).2.2.2
def iIsCore.s (n : Nat) (d : Co) : Option Bool :=
(iSizeOfCore n d.eta).bind fun x1 =>
(gd (decide (x1 ≤ 600)) (iAreCoreNodes n d.eta) false).bind fun x2 =>
some ((decide (x1 ≤ 600)) && x2)
def iIsCore (n : Nat) (d : Co) : Option Bool := iIsCore.s n d
def lFnExactIsCore.s (n : Nat) (aD : Co) : Option Bool :=
(lSzCore n aD.eta 1048576).bind fun x1 =>
bif (decide (x1 < 0)) then some true
else (lToCore n aD.eta).bind fun x2 =>
(sIsCore n x2.eta).bind fun x3 =>
(lToCore n aD.eta).bind fun x4 =>
(iIsCore n x4.eta).bind fun x5 =>
bif (!(x5 == x3)) then some false
else (lToCore n aD.eta).bind fun x6 =>
(lEqCore n x4.eta x6.eta).bind fun x7 =>
bif (!x7) then some false
else some true
def lFnExactIsCore (n : Nat) (aD : Co) : Option Bool := lFnExactIsCore.s n aD
def sL24Answer.s (n : Nat) (r_sL24Answer : Co → Option Bool) (d : Co) : Option Bool :=
bif ((d.kind == 11) && ((d.args.length : Int) == 2)) then (nthT d.args 0).bind fun x1 =>
(r_sL24Answer x1.eta).bind fun x2 =>
(gd x2 (nthT d.args 1) (UU.dflt 5)).bind fun x3 =>
(gd x2 (r_sL24Answer x3.eta) false).bind fun x4 =>
some (x2 && x4)
else some ((d.kind == 6) || (d.kind == 9))
def sL24Answer : Nat → Co → Option Bool
  | 0, _ => none
  | n + 1, d => sL24Answer.s n (sL24Answer n) d
def sIsAnswer.s (n : Nat) (d : Co) : Option Bool :=
(sIsCore n d.eta).bind fun x1 =>
(gd x1 (sL24Answer n d.eta) false).bind fun x2 =>
some (x1 && x2)
def sIsAnswer (n : Nat) (d : Co) : Option Bool := sIsAnswer.s n d
def iIsAnswer_2.s (n : Nat) (r_iIsAnswer_2 : Co → Option Bool) (d : Co) : Option Bool :=
(gd ((!((d.kind == 6) || (d.kind == 9))) && (d.kind == 11)) (nthT d.args 0) (UU.dflt 5)).bind fun x1 =>
(gd ((!((d.kind == 6) || (d.kind == 9))) && (d.kind == 11)) (r_iIsAnswer_2 x1.eta) false).bind fun x2 =>
(gd ((!((d.kind == 6) || (d.kind == 9))) && ((d.kind == 11) && x2)) (nthT d.args 1) (UU.dflt 5)).bind fun x3 =>
(gd ((!((d.kind == 6) || (d.kind == 9))) && ((d.kind == 11) && x2)) (r_iIsAnswer_2 x3.eta) false).bind fun x4 =>
some (((d.kind == 6) || (d.kind == 9)) || (((d.kind == 11) && x2) && x4))
def iIsAnswer_2 : Nat → Co → Option Bool
  | 0, _ => none
  | n + 1, d => iIsAnswer_2.s n (iIsAnswer_2 n) d
def iIsAnswer.s (n : Nat) (d : Co) : Option Bool :=
(iIsCore n d.eta).bind fun x1 =>
(gd x1 (iIsAnswer_2 n d.eta) false).bind fun x2 =>
some (x1 && x2)
def iIsAnswer (n : Nat) (d : Co) : Option Bool := iIsAnswer.s n d
def lFnExactIsAnswer.s (n : Nat) (aD : Co) : Option Bool :=
(lSzCore n aD.eta 1048576).bind fun x1 =>
bif (decide (x1 < 0)) then some true
else (lToCore n aD.eta).bind fun x2 =>
(sIsAnswer n x2.eta).bind fun x3 =>
(lToCore n aD.eta).bind fun x4 =>
(iIsAnswer n x4.eta).bind fun x5 =>
bif (!(x5 == x3)) then some false
else (lToCore n aD.eta).bind fun x6 =>
(lEqCore n x4.eta x6.eta).bind fun x7 =>
bif (!x7) then some false
else some true
def lFnExactIsAnswer (n : Nat) (aD : Co) : Option Bool := lFnExactIsAnswer.s n aD
def iAt.l2s (n : Nat) (l2 : (List Int) → Int → Int → Ex → Option (Ex × Bool × Unit)) (t8 : List Int) (t9 : Int) (t10 : Int) (e : Ex) : Option (Ex × Bool × Unit) :=
bif (decide (t10 < t9)) then (nthT t8 t10).bind fun x1 =>
bif ((decide (x1 < 0)) || (decide (x1 ≥ (e.args.length : Int)))) then some ((Ex.mk 0 (⟨#[]⟩) 0 (Ty.mk 0 ([])) ([])), false, ())
else (nthT e.args x1).bind fun x2 =>
l2 t8 t9 (w64 (t10 + 1)) x2.eta
else some (e.eta, true, ())
def iAt.l2 (n : Nat) : Nat → (List Int) → Int → Int → Ex → Option (Ex × Bool × Unit)
  | 0, _, _, _, _ => none
  | m + 1, t8, t9, t10, e => iAt.l2s n (iAt.l2 n m) t8 t9 t10 e
def iAt.s (n : Nat) (l2 : (List Int) → Int → Int → Ex → Option (Ex × Bool × Unit)) (e : Ex) (path : List Int) : Option (Ex × Bool × Unit) :=
l2 path (path.length : Int) 0 e.eta
def iAt (n : Nat) (e : Ex) (path : List Int) : Option (Ex × Bool × Unit) := iAt.s n (iAt.l2 n n) e path
def iSizeOf.l5s (n : Nat) (r_iSizeOf : Ex → Option Int) (l5 : Int → (List Ex) → Int → Int → Option Int) (n_ : Int) (t10 : List Ex) (t11 : Int) (t12 : Int) : Option Int :=
bif (decide (t12 < t11)) then (nthT t10 t12).bind fun x1 =>
(r_iSizeOf x1.eta).bind fun x2 =>
l5 (w64 (n_ + x2)) t10 t11 (w64 (t12 + 1))
else some n_
def iSizeOf.l5 (n : Nat) (r_iSizeOf : Ex → Option Int) : Nat → Int → (List Ex) → Int → Int → Option Int
  | 0, _, _, _, _ => none
  | m + 1, n_, t10, t11, t12 => iSizeOf.l5s n r_iSizeOf (iSizeOf.l5 n r_iSizeOf m) n_ t10 t11 t12
def iSizeOf.s (n : Nat) (r_iSizeOf : Ex → Option Int) (l5 : Int → (List Ex) → Int → Int → Option Int) (e : Ex) : Option Int :=
bif (e.kind == 14) then l5 0 e.args (e.args.length : Int) 0
else l5 1 e.args (e.args.length : Int) 0
def iSizeOf : Nat → Ex → Option Int
  | 0, _ => none
  | n + 1, e => iSizeOf.s n (iSizeOf n) (iSizeOf.l5 n (iSizeOf n) n) e
def iDepthOf.l3s (n : Nat) (r_iDepthOf : Ex → Option Int) (l3 : Int → (List Ex) → Int → Int → Ex → Option Int) (n_ : Int) (t7 : List Ex) (t8 : Int) (t9 : Int) (e : Ex) : Option Int :=
bif (decide (t9 < t8)) then (nthT t7 t9).bind fun x1 =>
(r_iDepthOf x1.eta).bind fun x2 =>
l3 (max n_ x2) t7 t8 (w64 (t9 + 1)) e.eta
else bif (e.kind == 14) then some n_
else some (w64 (n_ + 1))
def iDepthOf.l3 (n : Nat) (r_iDepthOf : Ex → Option Int) : Nat → Int → (List Ex) → Int → Int → Ex → Option Int
  | 0, _, _, _, _, _ => none
  | m + 1, n_, t7, t8, t9, e => iDepthOf.l3s n r_iDepthOf (iDepthOf.l3 n r_iDepthOf m) n_ t7 t8 t9 e
def iDepthOf.s (n : Nat) (r_iDepthOf : Ex → Option Int) (l3 : Int → (List Ex) → Int → Int → Ex → Option Int) (e : Ex) : Option Int :=
l3 0 e.args (e.args.length : Int) 0 e.eta
def iDepthOf : Nat → Ex → Option Int
  | 0, _ => none
  | n + 1, e => iDepthOf.s n (iDepthOf n) (iDepthOf.l3 n (iDepthOf n) n) e
def iArityOf.s (n : Nat) (kind : Int) : Option Int :=
bif (kind == 1) then some 0
else bif (kind == 2) then some 0
else bif (kind == 5) then some 0
else bif (kind == 8) then some 0
else bif (kind == 3) then some 1
else bif (kind == 11) then some 1
else bif (kind == 12) then some 1
else bif (kind == 13) then some 1
else bif (kind == 14) then some 1
else bif (kind == 4) then some 2
else bif (kind == 6) then some 2
else bif (kind == 7) then some 2
else bif (kind == 10) then some 2
else bif (kind == 9) then some 3
else some (-1)
def iArityOf (n : Nat) (kind : Int) : Option Int := iArityOf.s n kind
def iIsNode.s (n : Nat) (a0 : Ex) : Option Bool :=
(iArityOf n a0.kind).bind fun x1 =>
(gd ((!(((a0.args.length : Int) != x1) || (!(((a0.kind == 2) || (a0.kind == 3)) == (!(seqT a0.name (⟨#[]⟩))))))) && ((a0.kind == 2) || (a0.kind == 3))) (iIsName n a0.name) false).bind fun x2 =>
bif ((((a0.args.length : Int) != x1) || (!(((a0.kind == 2) || (a0.kind == 3)) == (!(seqT a0.name (⟨#[]⟩)))))) || (((a0.kind == 2) || (a0.kind == 3)) && (!x2))) then some false
else (gd ((a0.kind == 3) || (a0.kind == 13)) (iIsNote n a0.ty.eta) false).bind fun x3 =>
(gd ((!(((a0.kind == 3) || (a0.kind == 13)) && (!x3))) && (!((a0.kind == 3) || (a0.kind == 13)))) (iEqualType n a0.ty.eta (Ty.mk 0 ([]))) false).bind fun x4 =>
bif ((((a0.kind == 3) || (a0.kind == 13)) && (!x3)) || ((!((a0.kind == 3) || (a0.kind == 13))) && (!x4))) then some false
else bif (a0.kind == 1) then (iIsHoleNumber n a0.n).bind fun x5 =>
some x5
else bif (a0.kind == 14) then (iIsHoleNumber n a0.n).bind fun x6 =>
some x6
else bif (a0.kind == 5) then some ((decide (a0.n ≥ 0)) && (decide (a0.n ≤ 999)))
else bif (a0.kind == 8) then some ((a0.n == 0) || (a0.n == 1))
else some (a0.n == 0)
def iIsNode (n : Nat) (a0 : Ex) : Option Bool := iIsNode.s n a0
def iAreNodes.l4s (n : Nat) (r_iAreNodes : Ex → Option Bool) (l4 : (List Ex) → Int → Int → Ex → Option Bool) (t9 : List Ex) (t10 : Int) (t11 : Int) (e : Ex) : Option Bool :=
bif (decide (t11 < t10)) then (nthT t9 t11).bind fun x1 =>
(gd (!((e.kind == 14) && (x1.kind == 14))) (r_iAreNodes x1.eta) false).bind fun x2 =>
bif (((e.kind == 14) && (x1.kind == 14)) || (!x2)) then some false
else l4 t9 t10 (w64 (t11 + 1)) e.eta
else some true
def iAreNodes.l4 (n : Nat) (r_iAreNodes : Ex → Option Bool) : Nat → (List Ex) → Int → Int → Ex → Option Bool
  | 0, _, _, _, _ => none
  | m + 1, t9, t10, t11, e => iAreNodes.l4s n r_iAreNodes (iAreNodes.l4 n r_iAreNodes m) t9 t10 t11 e
def iAreNodes.s (n : Nat) (r_iAreNodes : Ex → Option Bool) (l4 : (List Ex) → Int → Int → Ex → Option Bool) (e : Ex) : Option Bool :=
(iIsNode n e.eta).bind fun x1 =>
bif (!x1) then some false
else l4 e.args (e.args.length : Int) 0 e.eta
def iAreNodes : Nat → Ex → Option Bool
  | 0, _ => none
  | n + 1, e => iAreNodes.s n (iAreNodes n) (iAreNodes.l4 n (iAreNodes n) n) e
def iIsValidExpr.s (n : Nat) (e : Ex) : Option Bool :=
(iSizeOf n e.eta).bind fun x1 =>
(gd (decide (x1 ≤ 40)) (iDepthOf n e.eta) 0).bind fun x2 =>
(gd ((decide (x1 ≤ 40)) && (decide (x2 ≤ 12))) (iAreNodes n e.eta) false).bind fun x3 =>
some (((decide (x1 ≤ 40)) && (decide (x2 ≤ 12))) && x3)
def iIsValidExpr (n : Nat) (e : Ex) : Option Bool := iIsValidExpr.s n e
def iCountKind_1.s (n : Nat) (x_ : Ex) (b0 : Int) (b1 : Int) : Option ((Unit) × ((Int × Unit) × (Int × Unit) × Unit)) :=
bif (x_.kind == b0) then some ((()), ((b0, ()), ((w64 (b1 + 1)), ()), ()))
else some ((()), ((b0, ()), (b1, ()), ()))
def iCountKind_1 (n : Nat) (x_ : Ex) (b0 : Int) (b1 : Int) : Option ((Unit) × ((Int × Unit) × (Int × Unit) × Unit)) := iCountKind_1.s n x_ b0 b1
def iVisit_CountKind_1.l3s (n : Nat) (r_iVisit_CountKind_1 : Ex → Int → Int → Option ((Unit) × ((Int × Unit) × (Int × Unit) × Unit))) (l3 : (List Ex) → Int → Int → Int → Int → Option ((Unit) × ((Int × Unit) × (Int × Unit) × Unit))) (t10 : List Ex) (t11 : Int) (t12 : Int) (b1000 : Int) (b1001 : Int) : Option ((Unit) × ((Int × Unit) × (Int × Unit) × Unit)) :=
bif (decide (t12 < t11)) then (nthT t10 t12).bind fun x1 =>
(r_iVisit_CountKind_1 x1.eta b1000 b1001).bind fun r2 =>
l3 t10 t11 (w64 (t12 + 1)) r2.2.1.1 r2.2.2.1.1
else some ((()), ((b1000, ()), (b1001, ()), ()))
def iVisit_CountKind_1.l3 (n : Nat) (r_iVisit_CountKind_1 : Ex → Int → Int → Option ((Unit) × ((Int × Unit) × (Int × Unit) × Unit))) : Nat → (List Ex) → Int → Int → Int → Int → Option ((Unit) × ((Int × Unit) × (Int × Unit) × Unit))
  | 0, _, _, _, _, _ => none
  | m + 1, t10, t11, t12, b1000, b1001 => iVisit_CountKind_1.l3s n r_iVisit_CountKind_1 (iVisit_CountKind_1.l3 n r_iVisit_CountKind_1 m) t10 t11 t12 b1000 b1001
def iVisit_CountKind_1.s (n : Nat) (r_iVisit_CountKind_1 : Ex → Int → Int → Option ((Unit) × ((Int × Unit) × (Int × Unit) × Unit))) (l3 : (List Ex) → Int → Int → Int → Int → Option ((Unit) × ((Int × Unit) × (Int × Unit) × Unit))) (e : Ex) (b0 : Int) (b1 : Int) : Option ((Unit) × ((Int × Unit) × (Int × Unit) × Unit)) :=
(iCountKind_1 n e.eta b0 b1).bind fun r1 =>
l3 e.args (e.args.length : Int) 0 r1.2.1.1 r1.2.2.1.1
def iVisit_CountKind_1 : Nat → Ex → Int → Int → Option ((Unit) × ((Int × Unit) × (Int × Unit) × Unit))
  | 0, _, _, _ => none
  | n + 1, e, b0, b1 => iVisit_CountKind_1.s n (iVisit_CountKind_1 n) (iVisit_CountKind_1.l3 n (iVisit_CountKind_1 n) n) e b0 b1
def iCountKind.s (n : Nat) (e : Ex) (kind : Int) : Option Int :=
(iVisit_CountKind_1 n e.eta kind 0).bind fun r1 =>
some r1.2.2.1.1
def iCountKind (n : Nat) (e : Ex) (kind : Int) : Option Int := iCountKind.s n e kind
def iIsRaw.s (n : Nat) (e : Ex) : Option Bool :=
(iIsValidExpr n e.eta).bind fun x1 =>
(gd x1 (iCountKind n e.eta 14) 0).bind fun x2 =>
some (x1 && (x2 == 0))
def iIsRaw (n : Nat) (e : Ex) : Option Bool := iIsRaw.s n e
def iIsEdit.s (n : Nat) (s : Ed) : Option Bool :=
(iAt n s.ex.eta s.path).bind fun x1 =>
(gd x1.2.1 (iIsRaw n s.ex.eta) false).bind fun x2 =>
some (x1.2.1 && x2)
def iIsEdit (n : Nat) (s : Ed) : Option Bool := iIsEdit.s n s
def sL1Bit.s (n : Nat) (on : Bool) : Option Int :=
bif on then some 1
else some 0
def sL1Bit (n : Nat) (on : Bool) : Option Int := sL1Bit.s n on
def sL6Left.l5s (n : Nat) (r_sL6Left : Ex → Int → Option Int) (l5 : Int → Int → Ex → Option Int) (left_ : Int) (k : Int) (e : Ex) : Option Int :=
bif ((decide (k < (e.args.length : Int))) && (decide (left_ ≥ 0))) then (nthT e.args k).bind fun x1 =>
(r_sL6Left x1.eta left_).bind fun x2 =>
l5 x2 (w64 (k + 1)) e.eta
else some left_
def sL6Left.l5 (n : Nat) (r_sL6Left : Ex → Int → Option Int) : Nat → Int → Int → Ex → Option Int
  | 0, _, _, _ => none
  | m + 1, left_, k, e => sL6Left.l5s n r_sL6Left (sL6Left.l5 n r_sL6Left m) left_ k e
def sL6Left.s (n : Nat) (r_sL6Left : Ex → Int → Option Int) (l5 : Int → Int → Ex → Option Int) (e : Ex) (left_ : Int) : Option Int :=
(gd ((e.kind == 14) && (!((e.args.length : Int) != 1))) (nthT e.args 0) (UU.dflt 4)).bind fun x1 =>
bif ((e.kind == 14) && (((e.args.length : Int) != 1) || (x1.kind == 14))) then some (-1)
else (sL1Bit n (e.kind == 14)).bind fun x2 =>
l5 (w64 ((w64 (left_ - 1)) + x2)) 0 e.eta
def sL6Left : Nat → Ex → Int → Option Int
  | 0, _, _ => none
  | n + 1, e, left_ => sL6Left.s n (sL6Left n) (sL6Left.l5 n (sL6Left n) n) e left_
def sDepthOf.l3s (n : Nat) (r_sDepthOf : Ex → Option Int) (l3 : Int → Int → Ex → Option Int) (n_ : Int) (k : Int) (e : Ex) : Option Int :=
bif (decide (k < (e.args.length : Int))) then (nthT e.args k).bind fun x1 =>
(r_sDepthOf x1.eta).bind fun x2 =>
(sL1Max n n_ x2).bind fun x3 =>
l3 x3 (w64 (k + 1)) e.eta
else (sL1Bit n (e.kind == 14)).bind fun x4 =>
some (w64 ((w64 (n_ + 1)) - x4))
def sDepthOf.l3 (n : Nat) (r_sDepthOf : Ex → Option Int) : Nat → Int → Int → Ex → Option Int
  | 0, _, _, _ => none
  | m + 1, n_, k, e => sDepthOf.l3s n r_sDepthOf (sDepthOf.l3 n r_sDepthOf m) n_ k e
def sDepthOf.s (n : Nat) (r_sDepthOf : Ex → Option Int) (l3 : Int → Int → Ex → Option Int) (e : Ex) : Option Int :=
l3 0 0 e.eta
def sDepthOf : Nat → Ex → Option Int
  | 0, _ => none
  | n + 1, e => sDepthOf.s n (sDepthOf n) (sDepthOf.l3 n (sDepthOf n) n) e
def sL6Fields.s (n : Nat) (a0 : Ex) : Option Bool :=
(sIsName n a0.name).bind fun x1 =>
bif ((!(((a0.kind == 2) || (a0.kind == 3)) == x1)) || ((!((a0.kind == 2) || (a0.kind == 3))) && (!(seqT a0.name (⟨#[]⟩))))) then some false
else (sIsNote n a0.ty.eta).bind fun x2 =>
bif ((!(((a0.kind == 3) || (a0.kind == 13)) == x2)) || ((!((a0.kind == 3) || (a0.kind == 13))) && ((a0.ty.kind != 0) || (decide ((a0.ty.args.length : Int) > 0))))) then some false
else bif (a0.kind == 1) then (sL1In n a0.n 1 99).bind fun x3 =>
some x3
else bif (a0.kind == 14) then (sL1In n a0.n 1 99).bind fun x4 =>
some x4
else bif (a0.kind == 5) then (sL1In n a0.n 0 999).bind fun x5 =>
some x5
else bif (a0.kind == 8) then (sL1In n a0.n 0 1).bind fun x6 =>
some x6
else some (a0.n == 0)
def sL6Fields (n : Nat) (a0 : Ex) : Option Bool := sL6Fields.s n a0
def sArityOf.s (n : Nat) (kind : Int) : Option Int :=
(sL1In n kind 1 14).bind fun x1 =>
bif (!x1) then some (-1)
else (nthT ([0, 0, 0, 1, 2, 0, 2, 2, 0, 3, 2, 1, 1, 1, 1]) kind).bind fun x2 =>
some x2
def sArityOf (n : Nat) (kind : Int) : Option Int := sArityOf.s n kind
def sL6Form.l2s (n : Nat) (r_sL6Form : Ex → Option Bool) (l2 : Int → Ex → Option Bool) (k : Int) (e : Ex) : Option Bool :=
bif (decide (k < (e.args.length : Int))) then (nthT e.args k).bind fun x1 =>
(r_sL6Form x1.eta).bind fun x2 =>
bif (!x2) then some false
else l2 (w64 (k + 1)) e.eta
else (gd ((e.kind == 14) && (decide ((e.args.length : Int) > 0))) (nthT e.args 0) (UU.dflt 4)).bind fun x3 =>
bif (((e.kind == 14) && (decide ((e.args.length : Int) > 0))) && (x3.kind == 14)) then some false
else (sL6Fields n e.eta).bind fun x4 =>
(gd x4 (sArityOf n e.kind) 0).bind fun x5 =>
some (x4 && ((e.args.length : Int) == x5))
def sL6Form.l2 (n : Nat) (r_sL6Form : Ex → Option Bool) : Nat → Int → Ex → Option Bool
  | 0, _, _ => none
  | m + 1, k, e => sL6Form.l2s n r_sL6Form (sL6Form.l2 n r_sL6Form m) k e
def sL6Form.s (n : Nat) (r_sL6Form : Ex → Option Bool) (l2 : Int → Ex → Option Bool) (e : Ex) : Option Bool :=
l2 0 e.eta
def sL6Form : Nat → Ex → Option Bool
  | 0, _ => none
  | n + 1, e => sL6Form.s n (sL6Form n) (sL6Form.l2 n (sL6Form n) n) e
def sIsValidExpr.s (n : Nat) (e : Ex) : Option Bool :=
(sL6Left n e.eta 40).bind fun x1 =>
(gd (decide (x1 ≥ 0)) (sDepthOf n e.eta) 0).bind fun x2 =>
(gd ((decide (x1 ≥ 0)) && (decide (x2 ≤ 12))) (sL6Form n e.eta) false).bind fun x3 =>
some (((decide (x1 ≥ 0)) && (decide (x2 ≤ 12))) && x3)
def sIsValidExpr (n : Nat) (e : Ex) : Option Bool := sIsValidExpr.s n e
def sL6Has.l2s (n : Nat) (r_sL6Has : Ex → Int → Option Bool) (l2 : Int → Int → Ex → Option Bool) (kind : Int) (k : Int) (e : Ex) : Option Bool :=
bif (decide (k < (e.args.length : Int))) then (nthT e.args k).bind fun x1 =>
(r_sL6Has x1.eta kind).bind fun x2 =>
bif x2 then some true
else l2 kind (w64 (k + 1)) e.eta
else some (e.kind == kind)
def sL6Has.l2 (n : Nat) (r_sL6Has : Ex → Int → Option Bool) : Nat → Int → Int → Ex → Option Bool
  | 0, _, _, _ => none
  | m + 1, kind, k, e => sL6Has.l2s n r_sL6Has (sL6Has.l2 n r_sL6Has m) kind k e
def sL6Has.s (n : Nat) (r_sL6Has : Ex → Int → Option Bool) (l2 : Int → Int → Ex → Option Bool) (e : Ex) (kind : Int) : Option Bool :=
l2 kind 0 e.eta
def sL6Has : Nat → Ex → Int → Option Bool
  | 0, _, _ => none
  | n + 1, e, kind => sL6Has.s n (sL6Has n) (sL6Has.l2 n (sL6Has n) n) e kind
def sIsRaw.s (n : Nat) (e : Ex) : Option Bool :=
(sIsValidExpr n e.eta).bind fun x1 =>
(gd x1 (sL6Has n e.eta 14) false).bind fun x2 =>
some (x1 && (!x2))
def sIsRaw (n : Nat) (e : Ex) : Option Bool := sIsRaw.s n e
def sL3Copy.l3s (n : Nat) (r_sL3Copy : Ty → Option Ty) (l3 : Int → Ty → Int → (List Ty) → Option Ty) (k : Int) (t : Ty) (outa : Int) (outb : List Ty) : Option Ty :=
bif (decide (k < (t.args.length : Int))) then (nthT t.args k).bind fun x1 =>
(r_sL3Copy x1.eta).bind fun x2 =>
bif fitsT outb.length ([x2.eta]).length 32 then l3 (w64 (k + 1)) t.eta outa (outb ++ ([x2.eta]))
else none
else some (Ty.mk outa outb)
def sL3Copy.l3 (n : Nat) (r_sL3Copy : Ty → Option Ty) : Nat → Int → Ty → Int → (List Ty) → Option Ty
  | 0, _, _, _, _ => none
  | m + 1, k, t, outa, outb => sL3Copy.l3s n r_sL3Copy (sL3Copy.l3 n r_sL3Copy m) k t outa outb
def sL3Copy.s (n : Nat) (r_sL3Copy : Ty → Option Ty) (l3 : Int → Ty → Int → (List Ty) → Option Ty) (t : Ty) : Option Ty :=
l3 0 t.eta t.kind ([] : List Ty)
def sL3Copy : Nat → Ty → Option Ty
  | 0, _ => none
  | n + 1, t => sL3Copy.s n (sL3Copy n) (sL3Copy.l3 n (sL3Copy n) n) t
def sL10Like.s (n : Nat) (e : Ex) (args : List Ex) : Option Ex :=
(sL3Copy n e.ty.eta).bind fun x1 =>
some (Ex.mk e.kind e.name e.n x1.eta args)
def sL10Like (n : Nat) (e : Ex) (args : List Ex) : Option Ex := sL10Like.s n e args
def iCopyType.l3s (n : Nat) (r_iCopyType : Ty → Option Ty) (l3 : (List Ty) → Int → Int → Int → (List Ty) → Option Ty) (t10 : List Ty) (t11 : Int) (t12 : Int) (outa : Int) (outb : List Ty) : Option Ty :=
bif (decide (t12 < t11)) then (nthT t10 t12).bind fun x1 =>
(r_iCopyType x1.eta).bind fun x2 =>
bif fitsT outb.length ([x2.eta]).length 32 then l3 t10 t11 (w64 (t12 + 1)) outa (outb ++ ([x2.eta]))
else none
else some (Ty.mk outa outb)
def iCopyType.l3 (n : Nat) (r_iCopyType : Ty → Option Ty) : Nat → (List Ty) → Int → Int → Int → (List Ty) → Option Ty
  | 0, _, _, _, _, _ => none
  | m + 1, t10, t11, t12, outa, outb => iCopyType.l3s n r_iCopyType (iCopyType.l3 n r_iCopyType m) t10 t11 t12 outa outb
def iCopyType.s (n : Nat) (r_iCopyType : Ty → Option Ty) (l3 : (List Ty) → Int → Int → Int → (List Ty) → Option Ty) (t : Ty) : Option Ty :=
l3 t.args (t.args.length : Int) 0 t.kind ([] : List Ty)
def iCopyType : Nat → Ty → Option Ty
  | 0, _ => none
  | n + 1, t => iCopyType.s n (iCopyType n) (iCopyType.l3 n (iCopyType n) n) t
def iBare.s (n : Nat) (e : Ex) : Option Ex :=
(iCopyType n e.ty.eta).bind fun x1 =>
some (Ex.mk e.kind e.name e.n x1.eta ([]))
def iBare (n : Nat) (e : Ex) : Option Ex := iBare.s n e
end Go.Proofs.Ytbbncbojkkackaa
