/- Core expressions that are well formed, and the laws of core expressions and of answers. -/
import Derived.Test.YtbbncbojkkackaaPuW
set_option linter.unusedVariables false
set_option linter.unusedSimpArgs false
namespace Go.Tx
open Go.Pu
def arC (k : Int) : Int := bif (k == 1) then 0 else bif (k == 3) then 0 else bif (k == 6) then 0 else bif (k == 9) then 0 else bif (k == 2) then 1 else bif (k == 4) then 1 else bif (k == 14) then 1 else bif (k == 15) then 1 else bif (k == 12) then 1 else bif (k == 13) then 1
  else bif (k == 5) then 2 else bif (k == 7) then 2 else bif (k == 8) then 2 else bif (k == 11) then 2 else bif (k == 10) then 3 else -1
def tyB (k : Int) : Bool := ((k == 4) || (k == 14)) || (k == 15)
def frB (k : Int) : Bool := (k == 14) || (k == 15)
def nmB (k : Int) : Bool := (k == 3) || (k == 4)
def zeroT (t : Ty) : Bool := Ty.beq t (.mk 0 [])
def numB (k q : Int) : Bool := bif (k == 1) then (decide (q ≥ 1) && decide (q ≤ 99)) else bif (k == 2) then (decide (q ≥ 1) && decide (q ≤ 99)) else bif (k == 9) then (decide (q ≥ 0) && decide (q ≤ 1)) else bif (k == 6) then true else (q == 0)
def tysB (k : Int) (f t : Ty) : Bool := (tyB k == t.valid) && (frB k == f.valid) && (tyB k || zeroT t) && (frB k || zeroT f)
def fldB (k : Int) (nm : ByteArray) (q : Int) (f t : Ty) : Bool := (nmB k == nameB nm) && (nmB k || seqT nm ⟨#[]⟩) && tysB k f t && numB k q
def hasN (names : List ByteArray) (s : ByteArray) : Bool := names.any fun x => seqT x s
mutual
def Co.fm : Co → Bool
  | .mk k nm q f t a e => Co.fmL a && fldB k nm q f t && Co.fmE [] e && ((((e.length : Int) == 0) || (k == 1)) || (k == 2)) && ((a.length : Int) == arC k)
def Co.fmL : List Co → Bool
  | [] => true
  | x :: r => Co.fm x && Co.fmL r
def Co.fmE : List ByteArray → List (ByteArray × Co) → Bool
  | _, [] => true
  | names, x :: r => nameB x.1 && !(hasN names x.1) && Co.fmP x && Co.fmE (names ++ [x.1]) r
def Co.fmP : ByteArray × Co → Bool
  | (_, c) => Co.fm c
end
theorem Co.fmL_eq (l : List Co) : Co.fmL l = l.all Co.fm := by
  induction l with
  | nil => rfl
  | cons x r ih => simp only [Co.fmL, List.all_cons, ih]
theorem Co.fmP_eq (b : Bi) : Co.fmP b = Co.fm b.2 := by obtain ⟨n, c⟩ := b; rfl
theorem valid_ne {t : Ty} (h : t.valid = true) : zeroT t = false := by
  unfold Ty.valid at h
  simp only [Bool.and_eq_true] at h
  have h1 := Go.Proofs.Ytbbncbojkkackaa.fm_kind h.2
  obtain ⟨k, a⟩ := t
  simp only [Ty.kind, bne_iff_ne] at h1
  simp [zeroT, Ty.beq, h1]
theorem zero_eq (t : Ty) : ((t.kind == 0) && ((t.args.length : Int) == 0)) = zeroT t := by
  obtain ⟨k, a⟩ := t
  show ((k == 0) && ((a.length : Int) == 0)) = Ty.beq (.mk k a) (.mk 0 [])
  simp only [Ty.beq]
  cases a with
  | nil => cases (k == 0) <;> rfl
  | cons x r =>
    have h : ((((x :: r).length : Nat) : Int) == 0) = false := by simp; omega
    rw [h]
    simp only [Ty.beqs]
end Go.Tx
namespace Go.Pu
open Go.Tx
theorem env_loop (e : List Bi) (he : e.length ≤ 9223372036854775807) (L : Nat → List ByteArray → Int → Option Bool) (fin : List ByteArray → Option Bool)
    (hs : ∀ m (k : Nat) names x, k < e.length → x ∈ e → nthT e k = some x → names.length = k → L (m + 1) names k = bif nameB x.1 && !(hasN names x.1) && Co.fmP x then L m (names ++ [x.1]) (w64 ((k : Int) + 1)) else some false)
    (hf : ∀ m names, L (m + 1) names (e.length : Int) = fin names) :
    ∀ m, e.length < m → L m [] 0 = bif Co.fmE [] e then fin (e.map fun x => x.1) else some false := by
  have main : ∀ (d k m : Nat) (names : List ByteArray), k + d = e.length → d < m → names.length = k → L m names k = bif Co.fmE names (e.drop k) then fin (names ++ (e.drop k).map fun x => x.1) else some false := by
    intro d
    induction d with
    | zero =>
      intro k m names hk hm hn
      obtain ⟨m, rfl⟩ : ∃ q, m = q + 1 := ⟨m - 1, by omega⟩
      rw [show k = e.length by omega, hf, List.drop_eq_nil_of_le (by omega)]
      simp only [Co.fmE, cond_true, List.map_nil, List.append_nil]
    | succ d ih =>
      intro k m names hk hm hn
      obtain ⟨m, rfl⟩ : ∃ q, m = q + 1 := ⟨m - 1, by omega⟩
      have hlt : k < e.length := by omega
      rw [hs m k names e[k] hlt (List.getElem_mem hlt) (by rw [nthT_nat, List.getElem?_eq_getElem hlt]) hn, w64_succ (by omega), ih (k + 1) m _ (by omega) (by omega) (by simp [hn]), List.drop_eq_getElem_cons hlt]
      simp only [Co.fmE, List.map_cons, List.append_assoc, List.singleton_append]
      cases nameB e[k].1 && !(hasN names e[k].1) && Co.fmP e[k] <;> rfl
  intro m hm
  have := main e.length 0 m [] (by omega) hm rfl
  simpa using this
end Go.Pu
namespace Go.Proofs.Ytbbncbojkkackaa
open Go.Tx Go.Pu
theorem sL18Left_ok : ∀ (n : Nat) (d : Co), d.ok → d.m ≤ n → ∀ l : Int, 0 ≤ l → l ≤ 1048576 → sL18Left n d l = some (szR d.nd l) := by
  intro n
  induction n using Nat.strongRecOn with
  | ind n ih =>
    rintro ⟨k, nm, q, ⟨tk, ta⟩, ⟨uk, ua⟩, a, e⟩ ⟨o1, o2, o3, o4, o5, o6, o7⟩ hm l h0 h1
    simp only [Co.m] at hm
    have hl := Co.mL_len a
    have hl2 := Co.mE_len e
    obtain ⟨n, rfl⟩ : ∃ q, n = q + 1 := ⟨n - 1, by omega⟩
    show sL18Left.l3 n (sL18Left n) n (w64 (l - 1)) 0 (Co.mk k nm q (.mk tk ta) (.mk uk ua) a e) = _
    rw [w64_id (by omega) (by omega)]
    obtain ⟨m', p1, p2, p3⟩ := left_loop Co.nd a o4 (fun m i l => sL18Left.l3 n (sL18Left n) m l i (Co.mk k nm q (.mk tk ta) (.mk uk ua) a e)) (fun x l => sL18Left n x.eta l) (fun m l => sL18Left.l7 n (sL18Left n) m l 0 (Co.mk k nm q (.mk tk ta) (.mk uk ua) a e))
      (fun x hx l q1 q2 => by rw [Co.eta_eq]; exact ih n (by omega) x (Co.oks_iff.1 o5 x hx) (by have := Co.mL_mem hx; omega) l q1 q2) (fun m i l hk => rfl) n (l - 1) (by omega) (by omega) (by omega)
    rw [p3]
    have hb : -1 ≤ (if 0 ≤ l - 1 then szR (Go.Pu.szE Co.nd a) (l - 1) else -1) ∧ (if 0 ≤ l - 1 then szR (Go.Pu.szE Co.nd a) (l - 1) else -1) ≤ 1048576 := by
      unfold szR; split <;> (try split) <;> omega
    obtain ⟨m2, _, _, p4⟩ := left_loop (fun b : Bi => Co.nd b.2) e o6 (fun m i l => sL18Left.l7 n (sL18Left n) m l i (Co.mk k nm q (.mk tk ta) (.mk uk ua) a e)) (fun x l => sL18Left n x.2.eta l) (fun m l => some l)
      (fun x hx l q1 q2 => by rw [Co.eta_eq]; exact ih n (by omega) x.2 (Co.okE_iff.1 o7 x hx).2 (by have := Co.mE_mem hx; simp only [Bi.m] at this; omega) l q1 q2) (fun m i l hk => rfl) m' _ hb.1 hb.2 (by omega)
    rw [p4]
    simp only [Co.nd]
    rw [Co.ndL_eq, Co.ndE_eq]
    congr 1
    unfold szR
    split <;> (try split) <;> (try split) <;> (try split) <;> (try split) <;> omega
theorem sCoreArity_ok (n : Nat) (k : Int) : sCoreArity n k = some (arC k) := by
  show ((some ((decide (k ≥ 1)) && (decide (k ≤ 15)))).bind fun x1 => bif (!x1) then some (-1) else (nthT ([0, 0, 1, 0, 1, 2, 0, 2, 2, 0, 3, 2, 1, 1, 1, 1] : List Int) k).bind fun x2 => some x2) = _
  by_cases h : 1 ≤ k ∧ k ≤ 15
  · have : k = 1 ∨ k = 2 ∨ k = 3 ∨ k = 4 ∨ k = 5 ∨ k = 6 ∨ k = 7 ∨ k = 8 ∨ k = 9 ∨ k = 10 ∨ k = 11 ∨ k = 12 ∨ k = 13 ∨ k = 14 ∨ k = 15 := by omega
    rcases this with rfl | rfl | rfl | rfl | rfl | rfl | rfl | rfl | rfl | rfl | rfl | rfl | rfl | rfl | rfl <;> rfl
  · have h1 : (decide (k ≥ 1) && decide (k ≤ 15)) = false := by
      rw [Bool.and_eq_false_iff]
      simp only [decide_eq_false_iff_not]
      omega
    rw [h1]
    have hne : ∀ i : Int, 1 ≤ i → i ≤ 15 → (k == i) = false := by intro i h1 h2; simp; omega
    unfold arC
    rw [hne 1, hne 2, hne 3, hne 4, hne 5, hne 6, hne 7, hne 8, hne 9, hne 10, hne 11, hne 12, hne 13, hne 14, hne 15] <;> first | rfl | omega
theorem iCoreArity_ok (n : Nat) (k : Int) : iCoreArity n k = some (arC k) := by
  show (bif (k == 1) then some 0 else bif (k == 3) then some 0 else bif (k == 6) then some 0 else bif (k == 9) then some 0 else bif (k == 2) then some 1 else bif (k == 4) then some 1 else bif (k == 14) then some 1 else bif (k == 15) then some 1 else bif (k == 12) then some 1 else bif (k == 13) then some 1
  else bif (k == 5) then some 2 else bif (k == 7) then some 2 else bif (k == 8) then some 2 else bif (k == 11) then some 2 else bif (k == 10) then some 3 else some (-1)) = _
  have hc : ∀ (b : Bool) (x y : Int), (bif b then some x else some y) = some (bif b then x else y) := by intro b x y; cases b <;> rfl
  simp only [hc]
  rfl
theorem sL18Types_ok (n k q : _) (nm : ByteArray) (f t : Ty) (a : List Co) (e : List (ByteArray × Co)) (of : f.ok) (ot : t.ok) (nf : f.nd ≤ 2000000) (nt : t.nd ≤ 2000000) (mf : 2 * f.m ≤ n) (mt : 2 * t.m ≤ n) : sL18Types n (.mk k nm q f t a e) = some (tysB k f t) := by
  show ((sIsValidType n t.eta).bind fun x1 => (gd (!(!(tyB k == x1))) (sIsValidType n f.eta) false).bind fun x2 => bif ((!(tyB k == x1)) || (!(frB k == x2))) then some false
    else (gd (!(tyB k)) (some ((t.kind == 0) && ((t.args.length : Int) == 0))) false).bind fun x3 => (gd ((tyB k || x3) && (!(frB k))) (some ((f.kind == 0) && ((f.args.length : Int) == 0))) false).bind fun x4 => some ((tyB k || x3) && (frB k || x4))) = _
  rw [Ty.eta_eq, Ty.eta_eq, sIsValidType_ok n t ot nt mt, sIsValidType_ok n f of nf mf, zero_eq, zero_eq]
  unfold tysB
  generalize t.valid = V
  generalize f.valid = W
  generalize zeroT t = Z
  generalize zeroT f = Y
  generalize tyB k = A
  generalize frB k = B
  cases A <;> cases V <;> cases B <;> cases W <;> cases Z <;> cases Y <;> rfl
theorem sL18Fields_ok (n k q : _) (nm : ByteArray) (f t : Ty) (a : List Co) (e : List (ByteArray × Co)) (on : nm.size ≤ 9223372036854775807) (hn : nm.size < n) (of : f.ok) (ot : t.ok) (nf : f.nd ≤ 2000000) (nt : t.nd ≤ 2000000) (mf : 2 * f.m ≤ n) (mt : 2 * t.m ≤ n) : sL18Fields n (.mk k nm q f t a e) = some (fldB k nm q f t) := by
  show ((sIsName n nm).bind fun x1 => (gd (!((!(nmB k == x1)) || ((!(nmB k)) && (!(seqT nm ⟨#[]⟩))))) (sL18Types n (.mk k nm q f.eta t.eta a e)) false).bind fun x2 =>
    bif (((!(nmB k == x1)) || ((!(nmB k)) && (!(seqT nm ⟨#[]⟩)))) || (!x2)) then some false
    else bif (k == 1) then (some ((decide (q ≥ 1)) && (decide (q ≤ 99)))).bind fun x3 => some x3
    else bif (k == 2) then (some ((decide (q ≥ 1)) && (decide (q ≤ 99)))).bind fun x3 => some x3
    else bif (k == 9) then (some ((decide (q ≥ 0)) && (decide (q ≤ 1)))).bind fun x3 => some x3
    else bif (k == 6) then some true else some (q == 0)) = _
  have hnum : (bif (k == 1) then (some ((decide (q ≥ 1)) && (decide (q ≤ 99)))).bind fun x3 => some x3
    else bif (k == 2) then (some ((decide (q ≥ 1)) && (decide (q ≤ 99)))).bind fun x3 => some x3
    else bif (k == 9) then (some ((decide (q ≥ 0)) && (decide (q ≤ 1)))).bind fun x3 => some x3
    else bif (k == 6) then some true else some (q == 0)) = some (numB k q) := by
    unfold numB
    cases (k == 1) <;> cases (k == 2) <;> cases (k == 9) <;> cases (k == 6) <;> rfl
  rw [hnum, Ty.eta_eq, Ty.eta_eq, sIsName_ok n nm on hn, sL18Types_ok n k q nm f t a e of ot nf nt mf mt]
  unfold fldB
  generalize nameB nm = V
  generalize seqT nm ⟨#[]⟩ = E
  generalize tysB k f t = T
  generalize numB k q = Q
  generalize nmB k = A
  cases A <;> cases V <;> cases E <;> cases T <;> rfl
theorem iIsCoreNode_ok (n k q : _) (nm : ByteArray) (f t : Ty) (a : List Co) (e : List (ByteArray × Co)) (on : nm.size ≤ 9223372036854775807) (hn : nm.size < n) (of : f.ok) (ot : t.ok) (nf : f.nd ≤ 2000000) (nt : t.nd ≤ 2000000) (mf : 2 * f.m ≤ n) (mt : 2 * t.m ≤ n) :
    iIsCoreNode n (.mk k nm q f t a e) = some (fldB k nm q f t && ((a.length : Int) == arC k)) := by
  have ht : (((k == 14) || (k == 15)) || (k == 4)) = tyB k := by unfold tyB; cases (k == 4) <;> cases (k == 14) <;> cases (k == 15) <;> rfl
  show ((iCoreArity n k).bind fun x1 => (gd ((!((a.length : Int) != x1)) && (nmB k)) (iIsName n nm) false).bind fun x2 =>
    bif ((((a.length : Int) != x1) || ((nmB k) && (!x2))) || ((!(nmB k)) && (!(seqT nm ⟨#[]⟩)))) then some false
    else (gd (((k == 14) || (k == 15)) || (k == 4)) (iIsValidType n t.eta) false).bind fun x3 =>
    (gd ((!((((k == 14) || (k == 15)) || (k == 4)) && (!x3))) && (!(((k == 14) || (k == 15)) || (k == 4)))) (iEqualType n t.eta (Ty.mk 0 [])) false).bind fun x4 =>
    (gd ((!(((((k == 14) || (k == 15)) || (k == 4)) && (!x3)) || ((!(((k == 14) || (k == 15)) || (k == 4))) && (!x4)))) && (frB k)) (iIsValidType n f.eta) false).bind fun x5 =>
    (gd ((!((((((k == 14) || (k == 15)) || (k == 4)) && (!x3)) || ((!(((k == 14) || (k == 15)) || (k == 4))) && (!x4))) || ((frB k) && (!x5)))) && (!(frB k))) (iEqualType n f.eta (Ty.mk 0 [])) false).bind fun x6 =>
    bif (((((((k == 14) || (k == 15)) || (k == 4)) && (!x3)) || ((!(((k == 14) || (k == 15)) || (k == 4))) && (!x4))) || ((frB k) && (!x5))) || ((!(frB k)) && (!x6))) then some false
    else bif (k == 1) then (some ((decide (q ≥ 1)) && (decide (q ≤ 99)))).bind fun x7 => some x7
    else bif (k == 2) then (some ((decide (q ≥ 1)) && (decide (q ≤ 99)))).bind fun x8 => some x8
    else bif (k == 6) then some true else bif (k == 9) then some ((q == 0) || (q == 1)) else some (q == 0)) = _
  have h01 : ((q == 0) || (q == 1)) = (decide (q ≥ 0) && decide (q ≤ 1)) := by
    rw [Bool.eq_iff_iff]
    simp only [Bool.or_eq_true, Bool.and_eq_true, beq_iff_eq, decide_eq_true_eq]
    omega
  have h69 : k = 6 → (k == 9) = false := by rintro rfl; rfl
  have hnum : (bif (k == 1) then (some ((decide (q ≥ 1)) && (decide (q ≤ 99)))).bind fun x7 => some x7
    else bif (k == 2) then (some ((decide (q ≥ 1)) && (decide (q ≤ 99)))).bind fun x8 => some x8
    else bif (k == 6) then some true else bif (k == 9) then some ((q == 0) || (q == 1)) else some (q == 0)) = some (numB k q) := by
    unfold numB
    rw [h01]
    by_cases h6 : k = 6
    · subst h6; rfl
    · have : (k == 6) = false := by simp [h6]
      rw [this]
      cases (k == 1) <;> cases (k == 2) <;> cases (k == 9) <;> rfl
  rw [hnum]
  simp only [ht, Ty.eta_eq]
  rw [iCoreArity_ok, iIsName_ok n nm on hn, iIsValidType_ok n t ot nt mt, iIsValidType_ok n f of nf mf, iEqualType_ok n t _ ot (by omega), iEqualType_ok n f _ of (by omega), Option.bind_some, bne_int]
  have e1 : nameB nm = true → seqT nm ⟨#[]⟩ = false := name_ne
  have e2 : t.valid = true → zeroT t = false := valid_ne
  have e3 : f.valid = true → zeroT f = false := valid_ne
  show _ = some (fldB k nm q f t && ((a.length : Int) == arC k))
  unfold fldB tysB
  unfold zeroT at e2 e3 ⊢
  generalize numB k q = Q
  generalize nameB nm = V at e1 ⊢
  generalize seqT nm ⟨#[]⟩ = E at e1 ⊢
  generalize t.valid = VT at e2 ⊢
  generalize f.valid = VF at e3 ⊢
  generalize Ty.beq t (.mk 0 []) = ZT at e2 ⊢
  generalize Ty.beq f (.mk 0 []) = ZF at e3 ⊢
  generalize ((a.length : Int) == arC k) = L
  generalize tyB k = A
  generalize frB k = B
  generalize nmB k = N
  cases L
  · rw [Bool.and_false]; rfl
  rw [Bool.and_true]
  cases V
  · clear e1
    cases N
    · cases E
      · rfl
      · cases VT
        · clear e2
          cases VF <;> (first | (have e3 := e3 rfl; subst e3) | clear e3) <;> cases A <;> cases B <;> (try cases ZF) <;> cases ZT <;> rfl
        · have e2 := e2 rfl
          subst e2
          cases VF <;> (first | (have e3 := e3 rfl; subst e3) | clear e3) <;> cases A <;> cases B <;> (try cases ZF) <;> rfl
    · rfl
  · have e1 := e1 rfl
    subst e1
    cases N
    · rfl
    · cases VT
      · clear e2
        cases VF <;> (first | (have e3 := e3 rfl; subst e3) | clear e3) <;> cases A <;> cases B <;> (try cases ZF) <;> cases ZT <;> rfl
      · have e2 := e2 rfl
        subst e2
        cases VF <;> (first | (have e3 := e3 rfl; subst e3) | clear e3) <;> cases A <;> cases B <;> (try cases ZF) <;> rfl
end Go.Proofs.Ytbbncbojkkackaa
