/- The laws of equality: what each computes is true. -/
import Derived.Test.YtbbncbojkkackaaPuF
import Derived.Test.YtbbncbojkkackaaPuS
import Derived.Test.YtbbncbojkkackaaRdA
set_option linter.unusedVariables false
set_option linter.unusedSimpArgs false
namespace Go.Tx
open Go.Pu
def Ed.sz (e : Ed) : Nat := e.ex.sz + e.path.length
def Ed.m (e : Ed) : Nat := e.ex.m + (e.path.length + 1)
def Cl.sz (c : Cl) : Nat := szL Bi.sz c.env
def Cl.m (c : Cl) : Nat := Co.mE c.env + 4
def Hy.sz (h : Hy) : Nat := szL Ed.sz h.past + (h.now.sz + szL Ed.sz h.next)
def Hy.m (h : Hy) : Nat := szL Ed.m h.past + h.now.m + szL Ed.m h.next + 1
def iB (a b : Int) : Bool := a == b
def Ed.beq (x y : Ed) : Bool := Ex.beq x.ex y.ex && beqL iB x.path y.path
def Cl.beq (x y : Cl) : Bool := (x.n == y.n) && (x.mark == y.mark) && beqL Bi.beq x.env y.env
def Hy.beq (x y : Hy) : Bool := beqL Ed.beq x.past y.past && Ed.beq x.now y.now && beqL Ed.beq x.next y.next
theorem Ed.beq_refl (x : Ed) : Ed.beq x x = true := by simp [Ed.beq, Ex.beq_refl, beqL_refl (eq := iB) (xs := x.path) (fun n _ => by simp [iB])]
theorem Bi.beq_refl (x : Bi) : Bi.beq x x = true := by simp [Bi.beq, seqT_refl, Co.beq_refl]
theorem Cl.beq_refl (x : Cl) : Cl.beq x x = true := by simp [Cl.beq, beqL_refl (eq := Bi.beq) (xs := x.env) (fun n _ => Bi.beq_refl n)]
theorem Hy.beq_refl (x : Hy) : Hy.beq x x = true := by simp [Hy.beq, Ed.beq_refl, beqL_refl (eq := Ed.beq) (xs := x.past) (fun n _ => Ed.beq_refl n), beqL_refl (eq := Ed.beq) (xs := x.next) (fun n _ => Ed.beq_refl n)]
end Go.Tx
namespace Go.Pu
open Go.Tx
theorem frame2 {sa sb : Nat} {F : Int → Option Int} {X : Option Bool} (hF : ∀ l, 0 ≤ l → l ≤ 1048576 → F l = some (szR sb l)) (hX : sa ≤ 1048576 → sb ≤ 1048576 → X = some true) :
    ((some (szR sa 1048576)).bind fun x1 => bif decide (x1 < 0) then some true else (F x1).bind fun x2 => bif decide (x2 < 0) then some true else X) = some true := by
  rw [Option.bind_some]
  unfold szR
  by_cases h : (sa : Int) ≤ 1048576
  · rw [if_pos h, hF _ (by omega) (by omega), Option.bind_some]
    have e1 : decide (1048576 - (sa : Int) < 0) = false := by simp; omega
    rw [e1, cond_false]
    unfold szR
    by_cases h2 : (sb : Int) ≤ 1048576 - (sa : Int)
    · rw [if_pos h2, hX (by omega) (by omega)]
      cases decide (1048576 - (sa : Int) - (sb : Int) < 0) <;> rfl
    · rw [if_neg h2]; rfl
  · rw [if_neg h]; rfl
end Go.Pu
namespace Go.Proofs.Ytbbncbojkkackaa
open Go.Tx Go.Pu
theorem lSzIntS_ok (n : Nat) (a : List Int) (l : Int) (h0 : 0 ≤ l) (h1 : l ≤ 1048576) (ha : a.length ≤ 9223372036854775807) : lSzIntS n a l = some (szR a.length l) := by
  show (bif (decide ((w64 (l - (a.length : Int))) < 0)) then some (-1) else some (w64 (l - (a.length : Int)))) = _
  have := sz_str (s := a.length) ha h0 h1 (t := 0) (x := some (w64 (l - (a.length : Int)))) fun hs => by
    rw [w64_id (by omega) (by omega)]
    unfold szR
    rw [if_pos (by omega)]
    simp
  rw [this]; rfl
theorem lSzEdit_ok (n : Nat) (t : Ed) (ok : t.ok) (hm : t.m ≤ n) (l : Int) (h0 : 0 ≤ l) (h1 : l ≤ 1048576) : lSzEdit n t l = some (szR t.sz l) := by
  obtain ⟨x, p⟩ := t
  obtain ⟨o1, o2⟩ := ok
  simp only [Ed.m] at hm
  show ((lSzExpr n x.eta l).bind fun x1 => bif (decide (x1 < 0)) then some (-1) else (lSzIntS n p x1).bind fun x2 => bif (decide (x2 < 0)) then some (-1) else some x2) = _
  rw [Ex.eta_eq, lSzExpr_ok n x o1 (by omega) l h0 h1, Option.bind_some]
  refine szR_step h0 fun hs => ?_
  have hs : (x.sz : Int) ≤ l := hs
  have o2 : p.length ≤ 9223372036854775807 := o2
  rw [show szR x.sz l = l - x.sz by rw [szR, if_pos hs], lSzIntS_ok n p _ (by omega) (by omega) o2, Option.bind_some, szR_fix]
theorem lSzEditS_ok (n : Nat) (a : List Ed) (l : Int) (h0 : 0 ≤ l) (h1 : l ≤ 1048576) (ha : a.length ≤ 9223372036854775807) (ho : ∀ x ∈ a, Ed.ok x) (hm : szL Ed.m a < n) : lSzEditS n a l = some (szR (szL Ed.sz a) l) := by
  have hl := szL_len Ed.m a
  show (bif (decide ((w64 (l - (a.length : Int))) < 0)) then some (-1) else lSzEditS.l5 n n a (w64 (l - (a.length : Int))) 0) = _
  refine szR_len Ed.sz a ha h0 h1 fun hle => ?_
  rw [w64_id (by omega) (by omega)]
  exact sz_loop Ed.sz (fun x l => lSzEdit n x.eta l) (fun m k l => lSzEditS.l5 n m a l k) a ha (fun x hx l q1 q2 => by rw [Ed.eta_eq]; exact lSzEdit_ok n x (ho x hx) (by have := szL_mem (sz := Ed.m) hx; omega) l q1 q2) (fun m k l hk => rfl) n _ (by omega) (by omega) (by omega)
theorem lSzHistory_ok (n : Nat) (t : Hy) (ok : t.ok) (hm : t.m ≤ n) (l : Int) (h0 : 0 ≤ l) (h1 : l ≤ 1048576) : lSzHistory n t l = some (szR t.sz l) := by
  obtain ⟨p, x, q⟩ := t
  obtain ⟨o1, o2, o3, o4, o5⟩ := ok
  simp only [Hy.m] at hm
  show ((lSzEditS n p l).bind fun x1 => bif (decide (x1 < 0)) then some (-1) else (lSzEdit n x.eta x1).bind fun x2 => bif (decide (x2 < 0)) then some (-1) else (lSzEditS n q x2).bind fun x3 => bif (decide (x3 < 0)) then some (-1) else some x3) = _
  rw [Ed.eta_eq, lSzEditS_ok n p l h0 h1 o1 o2 (by omega), Option.bind_some]
  refine szR_step h0 fun hs => ?_
  have hs : (szL Ed.sz p : Int) ≤ l := hs
  rw [show szR (szL Ed.sz p) l = l - szL Ed.sz p by rw [szR, if_pos hs], lSzEdit_ok n x o3 (by omega) _ (by omega) (by omega), Option.bind_some]
  refine szR_step (by omega) fun hs2 => ?_
  have hs2 : (x.sz : Int) ≤ l - szL Ed.sz p := hs2
  rw [show szR x.sz (l - szL Ed.sz p) = l - szL Ed.sz p - x.sz by rw [szR, if_pos hs2], lSzEditS_ok n q _ (by omega) (by omega) o4 o5 (by omega), Option.bind_some, szR_fix]
theorem lSzBinds_ok (n : Nat) (a : List Bi) (ha : a.length ≤ 9223372036854775807) (ho : ∀ x ∈ a, Bi.ok x) (hm : Co.mE a + 3 ≤ n) (l : Int) (h0 : 0 ≤ l) (h1 : l ≤ 1048576) : lSzCoreBindS n a l = some (szR (szL Bi.sz a) l) := by
  have hl := Co.mE_len a
  obtain ⟨n, rfl⟩ : ∃ q, n = q + 2 := ⟨n - 2, by omega⟩
  refine lSzCoreBindS_ok (n := n + 1) a l h0 h1 ha (by omega) fun x hx l' g0 g1 => ?_
  obtain ⟨nm', c⟩ := x
  have ho1 := ho _ hx
  have hmm := Co.mE_mem hx
  show (bif (decide ((w64 (l' - (nm'.size : Int))) < 0)) then some (-1) else (lSzCore n c.eta (w64 (l' - (nm'.size : Int)))).bind fun x1 => bif (decide (x1 < 0)) then some (-1) else some x1) = _
  rw [Co.eta_eq]
  have ho2 : nm'.size ≤ 9223372036854775807 := ho1.1
  refine sz_str ho2 g0 g1 fun hs5 => ?_
  have hs5 : (nm'.size : Int) ≤ l' := hs5
  rw [w64_id (by omega) (by omega), lSzCore_ok n c ho1.2 (by simp only [Bi.m] at hmm; omega) _ (by omega) (by omega), Option.bind_some, szR_fix]
theorem lSzClosure_ok (n : Nat) (t : Cl) (ok : t.ok) (hm : t.m ≤ n) (l : Int) (h0 : 0 ≤ l) (h1 : l ≤ 1048576) : lSzClosure n t l = some (szR t.sz l) := by
  obtain ⟨x, p, e⟩ := t
  obtain ⟨o1, o2⟩ := ok
  simp only [Cl.m] at hm
  show ((lSzCoreBindS n e l).bind fun x1 => bif (decide (x1 < 0)) then some (-1) else some x1) = _
  rw [lSzBinds_ok n e o1 o2 (by omega) l h0 h1, Option.bind_some, szR_fix]
  rfl

theorem lToIntS_ok (n : Nat) (a : List Int) (ha : a.length ≤ 1048576) (hn : a.length < n) : lToIntS n a = some a := by
  show (bif makeT (a.length : Int) 8 then lToIntS.l3 n n a (a.length : Int) 0 (List.replicate (a.length : Int).toNat (UU.dflt 0)) else none) = _
  rw [makeT_ok ha (by omega), cond_true]
  exact to_loop (fun x : Int => some x) (fun m k b => lToIntS.l3 n m a (a.length : Int) k b) a (by omega) (fun x hx => rfl) (fun m k b hk => by
    show (bif _ then _ else _) = _
    simp only [Option.bind_some]) n _ (List.length_replicate.trans (by simp)) hn
theorem lToEdit_ok (n : Nat) (t : Ed) (hs : t.sz ≤ 1048576) (hm : t.m ≤ n) : lToEdit n t = some t := by
  obtain ⟨x, p⟩ := t
  simp only [Ed.m] at hm
  simp only [Ed.sz] at hs
  show ((lToExpr n x.eta).bind fun x1 => (lToIntS n p).bind fun x2 => some (Ed.mk x1.eta x2)) = _
  rw [Ex.eta_eq, lToExpr_ok n x (by omega) (by omega), Option.bind_some, lToIntS_ok n p (by omega) (by omega), Option.bind_some, Ex.eta_eq]
theorem lToEditS_ok (n : Nat) (a : List Ed) (hs : szL Ed.sz a ≤ 1048576) (hm : szL Ed.m a < n) : lToEditS n a = some a := by
  have hl := szL_len Ed.m a
  have hl2 := szL_len Ed.sz a
  show (bif makeT (a.length : Int) 112 then lToEditS.l3 n n a (a.length : Int) 0 (List.replicate (a.length : Int).toNat (UU.dflt 9)) else none) = _
  rw [makeT_ok (by omega) (by omega), cond_true]
  exact to_loop (fun x => (lToEdit n x.eta).bind fun y => some y.eta) (fun m k b => lToEditS.l3 n m a (a.length : Int) k b) a (by omega) (fun x hx => by simp only [Ed.eta_eq, lToEdit_ok n x (by have := szL_mem (sz := Ed.sz) hx; omega) (by have := szL_mem (sz := Ed.m) hx; omega), Option.bind_some]) (fun m k b hk => by
    show (bif _ then _ else _) = _
    simp only [Ed.eta_eq, Option.bind_assoc, Option.bind_some]) n _ (List.length_replicate.trans (by simp)) (by omega)
theorem lToHistory_ok (n : Nat) (t : Hy) (hs : t.sz ≤ 1048576) (hm : t.m ≤ n) : lToHistory n t = some t := by
  obtain ⟨p, x, q⟩ := t
  simp only [Hy.m] at hm
  simp only [Hy.sz] at hs
  show ((lToEditS n p).bind fun x1 => (lToEdit n x.eta).bind fun x2 => (lToEditS n q).bind fun x3 => some (Hy.mk x1 x2.eta x3)) = _
  rw [Ed.eta_eq, lToEditS_ok n p (by omega) (by omega), Option.bind_some, lToEdit_ok n x (by omega) (by omega), Option.bind_some, lToEditS_ok n q (by omega) (by omega), Option.bind_some, Ed.eta_eq]
theorem lToBinds_ok (n : Nat) (a : List Bi) (hs : szL Bi.sz a ≤ 1048576) (hm : Co.mE a + 3 ≤ n) : lToCoreBindS n a = some a := by
  have hl := Co.mE_len a
  have hl2 := szL_len Bi.sz a
  obtain ⟨n, rfl⟩ : ∃ q, n = q + 2 := ⟨n - 2, by omega⟩
  refine lToCoreBindS_ok (n := n + 1) a (by omega) (by omega) fun x hx => ?_
  obtain ⟨nm', c⟩ := x
  have h1 := szL_mem (sz := Bi.sz) hx
  have h2 := Co.mE_mem hx
  simp only [Bi.sz] at h1
  simp only [Bi.m] at h2
  have he : lToCoreBind (n + 1) (nm', c) = (lToCore n c.eta).bind fun x1 => some (nm', x1.eta) := rfl
  rw [he, Co.eta_eq, lToCore_ok n c (by omega) (by omega), Option.bind_some, Co.eta_eq]
theorem lToClosure_ok (n : Nat) (t : Cl) (hs : t.sz ≤ 1048576) (hm : t.m ≤ n) : lToClosure n t = some t := by
  obtain ⟨x, p, e⟩ := t
  simp only [Cl.m] at hm
  simp only [Cl.sz] at hs
  show ((lToCoreBindS n e).bind fun x1 => some (Cl.mk x p x1)) = _
  rw [lToBinds_ok n e hs (by omega), Option.bind_some]

theorem lEqIntS_ok (n : Nat) (a b : List Int) (ha : a.length ≤ 9223372036854775807) (hn : a.length < n) : lEqIntS n a b = some (beqL iB a b) := by
  show (bif ((a.length : Int) != (b.length : Int)) then some false else lEqIntS.l4 n n a b 0) = _
  refine eq_list iB fun hl => ?_
  exact eq_loop iB (fun x y => some (iB x y)) (fun m k => lEqIntS.l4 n m a b k) a b ha hl (fun x hx y => rfl) (fun m k hk => rfl) n hn
theorem zEqual_Lint_ok (n : Nat) (a b : List Int) (ha : a.length ≤ 9223372036854775807) (hn : a.length < n) : zEqual_Lint n a b = some (beqL iB a b) := by
  show (bif ((a.length : Int) != (b.length : Int)) then some false else zEqual_Lint.l4 n n a b (a.length : Int) 0) = _
  refine eq_list iB fun hl => ?_
  exact eq_loop iB (fun x y => some (iB x y)) (fun m k => zEqual_Lint.l4 n m a b (a.length : Int) k) a b ha hl (fun x hx y => rfl) (fun m k hk => rfl) n hn
theorem iB_comm (a b : Int) : iB a b = iB b a := by unfold iB; exact Bool.beq_comm
theorem sL11Ints_ok (n : Nat) (a b : List Int) (ha : a.length ≤ 9223372036854775807) (hn : a.length < n) : sL11Ints n a b = some (beqL iB a b) := by
  show ((gd ((a.length : Int) == (b.length : Int)) (sIsWithin n a b) false).bind fun x1 => some (((a.length : Int) == (b.length : Int)) && x1)) = _
  by_cases hl : a.length = b.length
  · have e : ((a.length : Int) == (b.length : Int)) = true := by simp [hl]
    have e2 : decide ((b.length : Int) > (a.length : Int)) = false := by simp; omega
    have hw : sIsWithin n a b = some (beqL iB a b) := by
      show (bif (decide ((b.length : Int) > (a.length : Int))) then some false else sIsWithin.l4 n n a b 0) = _
      rw [e2, cond_false]
      rw [eq_loopG iB (fun m i => sIsWithin.l4 n m a b i) (fun _ => some true) a b ha hl (fun m i x y hi hx h1 h2 => ?_) (fun m => ?_) n hn]
      · cases beqL iB a b <;> rfl
      · show (bif decide ((i : Int) < (b.length : Int)) then (nthT b i).bind fun x1 => (nthT a i).bind fun x2 => bif (x1 != x2) then some false else sIsWithin.l4 n m a b (w64 ((i : Int) + 1)) else some true) = _
        rw [dec_lt (by omega), cond_true, h1, h2, Option.bind_some, Option.bind_some, bne_int, show (y == x) = iB x y by rw [iB_comm]; rfl]
        cases iB x y <;> rfl
      · show (bif decide ((a.length : Int) < (b.length : Int)) then _ else some true) = _
        rw [hl, dec_nlt]; rfl
    rw [e, hw]
    show (some _).bind _ = _
    rw [Option.bind_some, Bool.true_and]
  · have e : ((a.length : Int) == (b.length : Int)) = false := by simp; omega
    rw [e]
    rw [beqL_lenF (by simp [hl])]
    rfl
theorem lEqEdit_ok (n : Nat) (t u : Ed) (ok : t.ok) (hm : t.m ≤ n) : lEqEdit n t u = some (Ed.beq t u) := by
  obtain ⟨x, p⟩ := t
  obtain ⟨y, q⟩ := u
  obtain ⟨o1, o2⟩ := ok
  simp only [Ed.m] at hm
  show ((lEqExpr n x.eta y.eta).bind fun x1 => bif (!x1) then some false else (lEqIntS n p q).bind fun x2 => bif (!x2) then some false else some true) = _
  rw [Ex.eta_eq, Ex.eta_eq, lEqExpr_ok n x y o1 (by omega), lEqIntS_ok n p q o2 (by omega)]
  simp only [Ed.beq]
  cases Ex.beq x y <;> cases beqL iB p q <;> rfl
theorem sEqualEdit_ok (n : Nat) (t u : Ed) (ok : t.ok) (hm : t.m ≤ n) : sEqualEdit n t u = some (Ed.beq t u) := by
  obtain ⟨x, p⟩ := t
  obtain ⟨y, q⟩ := u
  obtain ⟨o1, o2⟩ := ok
  simp only [Ed.m] at hm
  show ((sEqualExpr n x.eta y.eta).bind fun x1 => (gd x1 (sL11Ints n p q) false).bind fun x2 => some (x1 && x2)) = _
  rw [Ex.eta_eq, Ex.eta_eq, sEqualExpr_ok n x y o1 (by omega), sL11Ints_ok n p q o2 (by omega)]
  simp only [Ed.beq]
  cases Ex.beq x y <;> cases beqL iB p q <;> rfl
theorem iEqualEdit_ok (n : Nat) (t u : Ed) (ok : t.ok) (hm : t.m ≤ n) : iEqualEdit n t u = some (Ed.beq t u) := by
  obtain ⟨x, p⟩ := t
  obtain ⟨y, q⟩ := u
  obtain ⟨o1, o2⟩ := ok
  simp only [Ed.m] at hm
  show ((iEqualExpr n x.eta y.eta).bind fun x1 => (gd x1 (zEqual_Lint n p q) false).bind fun x2 => some (x1 && x2)) = _
  rw [Ex.eta_eq, Ex.eta_eq, iEqualExpr_ok n x y o1 (by omega), zEqual_Lint_ok n p q o2 (by omega)]
  simp only [Ed.beq]
  cases Ex.beq x y <;> cases beqL iB p q <;> rfl
theorem lEqEditS_ok (n : Nat) (a b : List Ed) (ha : a.length ≤ 9223372036854775807) (ho : ∀ x ∈ a, Ed.ok x) (hm : szL Ed.m a < n) : lEqEditS n a b = some (beqL Ed.beq a b) := by
  have hl := szL_len Ed.m a
  show (bif ((a.length : Int) != (b.length : Int)) then some false else lEqEditS.l4 n n a b 0) = _
  refine eq_list Ed.beq fun hl => ?_
  exact eq_loop Ed.beq (fun x y => lEqEdit n x.eta y.eta) (fun m k => lEqEditS.l4 n m a b k) a b ha hl (fun x hx y => by rw [Ed.eta_eq, Ed.eta_eq]; exact lEqEdit_ok n x y (ho x hx) (by have := szL_mem (sz := Ed.m) hx; omega)) (fun m k hk => rfl) n (by omega)
theorem sL17Same_ok (n : Nat) (a b : List Ed) (ha : a.length ≤ 9223372036854775807) (ho : ∀ x ∈ a, Ed.ok x) (hm : szL Ed.m a < n) : sL17Same n a b = some (beqL Ed.beq a b) := by
  have hl := szL_len Ed.m a
  show (bif ((a.length : Int) != (b.length : Int)) then some false else sL17Same.l4 n n a b 0) = _
  refine eq_list Ed.beq fun hl => ?_
  exact eq_loop Ed.beq (fun x y => sEqualEdit n x.eta y.eta) (fun m k => sL17Same.l4 n m a b k) a b ha hl (fun x hx y => by rw [Ed.eta_eq, Ed.eta_eq]; exact sEqualEdit_ok n x y (ho x hx) (by have := szL_mem (sz := Ed.m) hx; omega)) (fun m k hk => rfl) n (by omega)
theorem zEqualFunc_Edit_EqualEdit_ok (n : Nat) (a b : List Ed) (ha : a.length ≤ 9223372036854775807) (ho : ∀ x ∈ a, Ed.ok x) (hm : szL Ed.m a < n) : zEqualFunc_Edit_EqualEdit n a b = some (beqL Ed.beq a b) := by
  have hl := szL_len Ed.m a
  show (bif ((a.length : Int) != (b.length : Int)) then some false else zEqualFunc_Edit_EqualEdit.l4 n n b a (a.length : Int) 0) = _
  refine eq_list Ed.beq fun hl => ?_
  exact eq_loop Ed.beq (fun x y => iEqualEdit n x.eta y.eta) (fun m k => zEqualFunc_Edit_EqualEdit.l4 n m b a (a.length : Int) k) a b ha hl (fun x hx y => by rw [Ed.eta_eq, Ed.eta_eq]; exact iEqualEdit_ok n x y (ho x hx) (by have := szL_mem (sz := Ed.m) hx; omega)) (fun m k hk => rfl) n (by omega)
theorem lEqHistory_ok (n : Nat) (t u : Hy) (ok : t.ok) (hm : t.m ≤ n) : lEqHistory n t u = some (Hy.beq t u) := by
  obtain ⟨p, x, q⟩ := t
  obtain ⟨p', x', q'⟩ := u
  obtain ⟨o1, o2, o3, o4, o5⟩ := ok
  simp only [Hy.m] at hm
  show ((lEqEditS n p p').bind fun x1 => bif (!x1) then some false else (lEqEdit n x.eta x'.eta).bind fun x2 => bif (!x2) then some false else (lEqEditS n q q').bind fun x3 => bif (!x3) then some false else some true) = _
  rw [Ed.eta_eq, Ed.eta_eq, lEqEditS_ok n p p' o1 o2 (by omega), lEqEdit_ok n x x' o3 (by omega), lEqEditS_ok n q q' o4 o5 (by omega)]
  simp only [Hy.beq]
  cases beqL Ed.beq p p' <;> cases Ed.beq x x' <;> cases beqL Ed.beq q q' <;> rfl
theorem sEqualHistory_ok (n : Nat) (t u : Hy) (ok : t.ok) (hm : t.m ≤ n) : sEqualHistory n t u = some (Hy.beq t u) := by
  obtain ⟨p, x, q⟩ := t
  obtain ⟨p', x', q'⟩ := u
  obtain ⟨o1, o2, o3, o4, o5⟩ := ok
  simp only [Hy.m] at hm
  show ((sL17Same n p p').bind fun x1 => (gd x1 (sEqualEdit n x.eta x'.eta) false).bind fun x2 => (gd (x1 && x2) (sL17Same n q q') false).bind fun x3 => some ((x1 && x2) && x3)) = _
  rw [Ed.eta_eq, Ed.eta_eq, sL17Same_ok n p p' o1 o2 (by omega), sEqualEdit_ok n x x' o3 (by omega), sL17Same_ok n q q' o4 o5 (by omega)]
  simp only [Hy.beq]
  cases beqL Ed.beq p p' <;> cases Ed.beq x x' <;> cases beqL Ed.beq q q' <;> rfl
theorem iEqualHistory_ok (n : Nat) (t u : Hy) (ok : t.ok) (hm : t.m ≤ n) : iEqualHistory n t u = some (Hy.beq t u) := by
  obtain ⟨p, x, q⟩ := t
  obtain ⟨p', x', q'⟩ := u
  obtain ⟨o1, o2, o3, o4, o5⟩ := ok
  simp only [Hy.m] at hm
  show ((zEqualFunc_Edit_EqualEdit n p p').bind fun x1 => (gd x1 (iEqualEdit n x.eta x'.eta) false).bind fun x2 => (gd (x1 && x2) (zEqualFunc_Edit_EqualEdit n q q') false).bind fun x3 => some ((x1 && x2) && x3)) = _
  rw [Ed.eta_eq, Ed.eta_eq, zEqualFunc_Edit_EqualEdit_ok n p p' o1 o2 (by omega), iEqualEdit_ok n x x' o3 (by omega), zEqualFunc_Edit_EqualEdit_ok n q q' o4 o5 (by omega)]
  simp only [Hy.beq]
  cases beqL Ed.beq p p' <;> cases Ed.beq x x' <;> cases beqL Ed.beq q q' <;> rfl
theorem lEqBinds_ok (n : Nat) (e g : List Bi) (he : e.length ≤ 9223372036854775807) (ho : ∀ x ∈ e, Bi.ok x) (hm : Co.mE e + 3 ≤ n) : lEqCoreBindS n e g = some (beqL Bi.beq e g) := by
  have hl2 := Co.mE_len e
  obtain ⟨n, rfl⟩ : ∃ q, n = q + 2 := ⟨n - 2, by omega⟩
  refine lEqCoreBindS_ok (n := n + 1) e g he (by omega) fun x hx y => ?_
  obtain ⟨nm', c⟩ := x
  obtain ⟨nm2, c2⟩ := y
  have h1 := ho _ hx
  have h2 := Co.mE_mem hx
  simp only [Bi.m] at h2
  have hq : lEqCoreBind (n + 1) (nm', c) (nm2, c2) = (bif (!(seqT nm' nm2)) then some false else (lEqCore n c.eta c2.eta).bind fun x1 => bif (!x1) then some false else some true) := rfl
  rw [hq, Co.eta_eq, Co.eta_eq, lEqCore_ok n c c2 h1.2 (by omega)]
  simp only [Bi.beq]
  cases seqT nm' nm2 <;> cases Co.beq c c2 <;> rfl
theorem lEqClosure_ok (n : Nat) (t u : Cl) (ok : t.ok) (hm : t.m ≤ n) : lEqClosure n t u = some (Cl.beq t u) := by
  obtain ⟨x, p, e⟩ := t
  obtain ⟨y, q, g⟩ := u
  obtain ⟨o1, o2⟩ := ok
  simp only [Cl.m] at hm
  show (bif (x != y) then some false else bif (!(p == q)) then some false else (lEqCoreBindS n e g).bind fun x1 => bif (!x1) then some false else some true) = _
  rw [lEqBinds_ok n e g o1 o2 (by omega)]
  simp only [Cl.beq, bne_int]
  cases (x == y) <;> cases (p == q) <;> cases beqL Bi.beq e g <;> rfl
theorem sEqualClosure_ok (n : Nat) (t u : Cl) (ok : t.ok) (hm : t.m ≤ n) : sEqualClosure n t u = some (Cl.beq t u) := by
  obtain ⟨x, p, e⟩ := t
  obtain ⟨y, q, g⟩ := u
  obtain ⟨o1, o2⟩ := ok
  simp only [Cl.m] at hm
  show ((gd ((x == y) && (p == q)) (sEqualBinds n e g) false).bind fun x1 => some (((x == y) && (p == q)) && x1)) = _
  rw [sEqualBinds_ok n e g o1 o2 (by omega)]
  simp only [Cl.beq]
  cases (x == y) <;> cases (p == q) <;> cases beqL Bi.beq e g <;> rfl
theorem iEqualClosure_ok (n : Nat) (t u : Cl) (ok : t.ok) (hm : t.m ≤ n) : iEqualClosure n t u = some (Cl.beq t u) := by
  obtain ⟨x, p, e⟩ := t
  obtain ⟨y, q, g⟩ := u
  obtain ⟨o1, o2⟩ := ok
  simp only [Cl.m] at hm
  show ((gd ((x == y) && (p == q)) (iEqualBinds n e g) false).bind fun x1 => some (((x == y) && (p == q)) && x1)) = _
  rw [iEqualBinds_ok n e g o1 o2 (by omega)]
  simp only [Cl.beq]
  cases (x == y) <;> cases (p == q) <;> cases beqL Bi.beq e g <;> rfl
theorem lFnExactEqualEdit_ok (a : Ed) (ha : a.ok) (b : Ed) (hb : b.ok) : ∃ n, lFnExactEqualEdit n a b = some true := by
  refine ⟨a.m + b.m, ?_⟩
  show lFnExactEqualEdit.s (a.m + b.m) a b = some true
  unfold lFnExactEqualEdit.s
  simp only [Ed.eta_eq]
  have ma : a.m ≤ a.m + b.m := by omega
  have mb : b.m ≤ a.m + b.m := by omega
  generalize a.m + b.m = n at ma mb ⊢
  rw [lSzEdit_ok n a ha ma _ (by omega) (by omega)]
  refine frame2 (F := fun l => lSzEdit n b l) (fun l h0 h1 => lSzEdit_ok n b hb mb l h0 h1) fun sa sb => ?_
  simp only [lToEdit_ok n a sa ma, lToEdit_ok n b sb mb, Option.bind_some, Ed.eta_eq, sEqualEdit_ok n a b ha ma, iEqualEdit_ok n a b ha ma, lEqEdit_ok n a a ha ma, lEqEdit_ok n b b hb mb, Ed.beq_refl]
  cases Ed.beq a b <;> rfl
theorem lFnExactEqualCore_ok (a : Co) (ha : a.ok) (b : Co) (hb : b.ok) : ∃ n, lFnExactEqualCore n a b = some true := by
  refine ⟨a.m + b.m, ?_⟩
  show lFnExactEqualCore.s (a.m + b.m) a b = some true
  unfold lFnExactEqualCore.s
  simp only [Co.eta_eq]
  have ma : a.m ≤ a.m + b.m := by omega
  have mb : b.m ≤ a.m + b.m := by omega
  generalize a.m + b.m = n at ma mb ⊢
  rw [lSzCore_ok n a ha ma _ (by omega) (by omega)]
  refine frame2 (F := fun l => lSzCore n b l) (fun l h0 h1 => lSzCore_ok n b hb mb l h0 h1) fun sa sb => ?_
  simp only [lToCore_ok n a sa ma, lToCore_ok n b sb mb, Option.bind_some, Co.eta_eq, sEqualCore_ok n a b ha ma, iEqualCore_ok n a b ha ma, lEqCore_ok n a a ha ma, lEqCore_ok n b b hb mb, Co.beq_refl]
  cases Co.beq a b <;> rfl
theorem lFnExactEqualClosure_ok (a : Cl) (ha : a.ok) (b : Cl) (hb : b.ok) : ∃ n, lFnExactEqualClosure n a b = some true := by
  refine ⟨a.m + b.m, ?_⟩
  show lFnExactEqualClosure.s (a.m + b.m) a b = some true
  unfold lFnExactEqualClosure.s
  simp only [Cl.eta_eq]
  have ma : a.m ≤ a.m + b.m := by omega
  have mb : b.m ≤ a.m + b.m := by omega
  generalize a.m + b.m = n at ma mb ⊢
  rw [lSzClosure_ok n a ha ma _ (by omega) (by omega)]
  refine frame2 (F := fun l => lSzClosure n b l) (fun l h0 h1 => lSzClosure_ok n b hb mb l h0 h1) fun sa sb => ?_
  simp only [lToClosure_ok n a sa ma, lToClosure_ok n b sb mb, Option.bind_some, Cl.eta_eq, sEqualClosure_ok n a b ha ma, iEqualClosure_ok n a b ha ma, lEqClosure_ok n a a ha ma, lEqClosure_ok n b b hb mb, Cl.beq_refl]
  cases Cl.beq a b <;> rfl
theorem lFnExactEqualHistory_ok (a : Hy) (ha : a.ok) (b : Hy) (hb : b.ok) : ∃ n, lFnExactEqualHistory n a b = some true := by
  refine ⟨a.m + b.m, ?_⟩
  show lFnExactEqualHistory.s (a.m + b.m) a b = some true
  unfold lFnExactEqualHistory.s
  simp only [Hy.eta_eq]
  have ma : a.m ≤ a.m + b.m := by omega
  have mb : b.m ≤ a.m + b.m := by omega
  generalize a.m + b.m = n at ma mb ⊢
  rw [lSzHistory_ok n a ha ma _ (by omega) (by omega)]
  refine frame2 (F := fun l => lSzHistory n b l) (fun l h0 h1 => lSzHistory_ok n b hb mb l h0 h1) fun sa sb => ?_
  simp only [lToHistory_ok n a sa ma, lToHistory_ok n b sb mb, Option.bind_some, Hy.eta_eq, sEqualHistory_ok n a b ha ma, iEqualHistory_ok n a b ha ma, lEqHistory_ok n a a ha ma, lEqHistory_ok n b b hb mb, Hy.beq_refl]
  cases Hy.beq a b <;> rfl
theorem lFnExactEqualBinds_ok (a : List Bi) (la : a.length ≤ 9223372036854775807) (ha : ∀ x ∈ a, Bi.ok x) (b : List Bi) (lb : b.length ≤ 9223372036854775807) (hb : ∀ x ∈ b, Bi.ok x) : ∃ n, lFnExactEqualBinds n a b = some true := by
  refine ⟨Co.mE a + Co.mE b + 4, ?_⟩
  show lFnExactEqualBinds.s (Co.mE a + Co.mE b + 4) a b = some true
  unfold lFnExactEqualBinds.s
  have ma : Co.mE a + 4 ≤ Co.mE a + Co.mE b + 4 := by omega
  have mb : Co.mE b + 4 ≤ Co.mE a + Co.mE b + 4 := by omega
  generalize Co.mE a + Co.mE b + 4 = n at ma mb ⊢
  rw [lSzBinds_ok n a la ha (by omega) _ (by omega) (by omega)]
  refine frame2 (F := fun l => lSzCoreBindS n b l) (fun l h0 h1 => lSzBinds_ok n b lb hb (by omega) l h0 h1) fun sa sb => ?_
  have ra : beqL Bi.beq a a = true := beqL_refl fun x _ => Bi.beq_refl x
  have rb : beqL Bi.beq b b = true := beqL_refl fun x _ => Bi.beq_refl x
  simp only [lToBinds_ok n a sa (by omega), lToBinds_ok n b sb (by omega), Option.bind_some, sEqualBinds_ok n a b la ha (by omega), iEqualBinds_ok n a b la ha (by omega), lEqBinds_ok n a a la ha (by omega), lEqBinds_ok n b b lb hb (by omega), ra, rb]
  cases beqL Bi.beq a b <;> rfl
end Go.Proofs.Ytbbncbojkkackaa
