/- Equality, as both programs compute it, is equality. -/
import Derived.Test.YtbbncbojkkackaaPuE
set_option linter.unusedVariables false
set_option linter.unusedSimpArgs false
namespace Go.Pu
open Go.Tx
theorem dec_lt {k n : Nat} (h : k < n) : decide ((k : Int) < (n : Int)) = true := by simp; omega
theorem dec_nlt (n : Nat) : decide ((n : Int) < (n : Int)) = false := by simp
/-- The loop of an equality of lists, with what comes behind it. -/
theorem eq_loopG {α : Type} (eq : α → α → Bool) (L : Nat → Int → Option Bool) (fin : Nat → Option Bool) (a b : List α) (ha : a.length ≤ 9223372036854775807) (hab : a.length = b.length)
    (hs : ∀ m (k : Nat) x y, k < a.length → x ∈ a → nthT a k = some x → nthT b k = some y → L (m + 1) k = bif eq x y then L m (w64 ((k : Int) + 1)) else some false)
    (he : ∀ m, L (m + 1) (a.length : Int) = fin m) :
    ∀ m, a.length < m → L m 0 = bif beqL eq a b then fin (m - a.length - 1) else some false := by
  have main : ∀ (d k m : Nat), k + d = a.length → d < m → L m k = bif beqL eq (a.drop k) (b.drop k) then fin (m - d - 1) else some false := by
    intro d
    induction d with
    | zero =>
      intro k m hk hm
      obtain ⟨m, rfl⟩ : ∃ q, m = q + 1 := ⟨m - 1, by omega⟩
      rw [show k = a.length by omega, he, List.drop_eq_nil_of_le (by omega), List.drop_eq_nil_of_le (by omega)]
      rfl
    | succ d ih =>
      intro k m hk hm
      obtain ⟨m, rfl⟩ : ∃ q, m = q + 1 := ⟨m - 1, by omega⟩
      have hlt : k < a.length := by omega
      have hlt2 : k < b.length := by omega
      have e : w64 ((k : Int) + 1) = ((k + 1 : Nat) : Int) := by rw [w64_id (by omega) (by omega)]; rfl
      rw [hs m k a[k] b[k] hlt (List.getElem_mem hlt) (by rw [nthT_nat, List.getElem?_eq_getElem hlt]) (by rw [nthT_nat, List.getElem?_eq_getElem hlt2]), e, ih (k + 1) m (by omega) (by omega), List.drop_eq_getElem_cons hlt, List.drop_eq_getElem_cons hlt2,
        show m + 1 - (d + 1) - 1 = m - d - 1 by omega]
      simp only [beqL]
      cases eq a[k] b[k] <;> rfl
  intro m hm
  have := main a.length 0 m (by omega) hm
  simpa using this
theorem eq_list2 {α : Type} (eq : α → α → Bool) {a b : List α} {c : Bool} {x : Option Bool} (h : c = false → a.length = b.length → x = some (beqL eq a b)) :
    (bif (c || ((a.length : Int) != (b.length : Int))) then some false else x) = some (!c && beqL eq a b) := by
  cases c
  · exact eq_list eq (h rfl)
  · rfl
theorem len_beq {α β : Type} (a : List α) (b : List β) : ((a.length : Int) == (b.length : Int)) = (a.length == b.length) := by
  rw [Bool.eq_iff_iff, beq_iff_eq, beq_iff_eq]
  omega
theorem beqL_lenF {α : Type} {eq : α → α → Bool} {a b : List α} (h : (a.length == b.length) = false) : beqL eq a b = false := by
  cases hb : beqL eq a b
  · rfl
  · have := beqL_len hb
    simp [this] at h
end Go.Pu
namespace Go.Proofs.Ytbbncbojkkackaa
open Go.Tx Go.Pu
theorem sEqualType_ok : ∀ (n : Nat) (t u : Ty), t.ok → t.m ≤ n → sEqualType n t u = some (Ty.beq t u) := by
  intro n
  induction n using Nat.strongRecOn with
  | ind n ih =>
    rintro ⟨k, a⟩ ⟨k', b⟩ ⟨o1, o2⟩ hm
    simp only [Ty.m] at hm
    have hl := Ty.mL_len a
    obtain ⟨n, rfl⟩ : ∃ q, n = q + 1 := ⟨n - 1, by omega⟩
    show (bif ((k != k') || ((a.length : Int) != (b.length : Int))) then some false else sEqualType.l4 n (sEqualType n) n 0 (.mk k a) (.mk k' b)) = _
    rw [eq_list2 Ty.beq fun _ hl2 => ?_]
    · simp only [Ty.beq, Ty.beqs_eq, bne_int, Bool.not_not]
    · rw [eq_loopG Ty.beq (fun m i => sEqualType.l4 n (sEqualType n) m i (.mk k a) (.mk k' b)) (fun _ => some true) a b o1 hl2 (fun m i x y hi hx h1 h2 => ?_) (fun m => ?_) n (by omega)]
      · cases beqL Ty.beq a b <;> rfl
      · show (bif decide ((i : Int) < (a.length : Int)) then (nthT a i).bind fun x1 => (nthT b i).bind fun x2 => (sEqualType n x1.eta x2.eta).bind fun x3 => bif (!x3) then some false else sEqualType.l4 n (sEqualType n) m (w64 ((i : Int) + 1)) (.mk k a) (.mk k' b) else some true) = _
        rw [dec_lt hi, cond_true, h1, h2, Option.bind_some, Option.bind_some, Ty.eta_eq, Ty.eta_eq, ih n (by omega) x y (Ty.oks_iff.1 o2 x hx) (by have := Ty.mL_mem hx; omega), Option.bind_some]
        cases Ty.beq x y <;> rfl
      · show (bif decide ((a.length : Int) < (a.length : Int)) then _ else some true) = _
        rw [dec_nlt]; rfl
theorem sEqualExpr_ok : ∀ (n : Nat) (t u : Ex), t.ok → t.m ≤ n → sEqualExpr n t u = some (Ex.beq t u) := by
  intro n
  induction n using Nat.strongRecOn with
  | ind n ih =>
    rintro ⟨k, nm, q, ⟨tk, ta⟩, a⟩ ⟨k', nm', q', ⟨tk', ta'⟩, b⟩ ⟨o1, o2, o3, o4⟩ hm
    simp only [Ex.m] at hm
    have hl := Ex.mL_len a
    obtain ⟨n, rfl⟩ : ∃ q, n = q + 1 := ⟨n - 1, by omega⟩
    show ((gd (!(((k != k') || (!(seqT nm nm'))) || (q != q'))) (sEqualType n (.mk tk ta) (.mk tk' ta')) false).bind fun x1 =>
      bif (((((k != k') || (!(seqT nm nm'))) || (q != q')) || (!x1)) || ((a.length : Int) != (b.length : Int))) then some false else sEqualExpr.l4 n (sEqualExpr n) n 0 (.mk k nm q (.mk tk ta) a) (.mk k' nm' q' (.mk tk' ta') b)) = _
    rw [sEqualType_ok n _ _ o2 (by omega)]
    have loop : a.length = b.length → sEqualExpr.l4 n (sEqualExpr n) n 0 (.mk k nm q (.mk tk ta) a) (.mk k' nm' q' (.mk tk' ta') b) = some (beqL Ex.beq a b) := fun hl2 => by
      rw [eq_loopG Ex.beq (fun m i => sEqualExpr.l4 n (sEqualExpr n) m i (.mk k nm q (.mk tk ta) a) (.mk k' nm' q' (.mk tk' ta') b)) (fun _ => some true) a b o3 hl2 (fun m i x y hi hx h1 h2 => ?_) (fun m => ?_) n (by omega)]
      · cases beqL Ex.beq a b <;> rfl
      · show (bif decide ((i : Int) < (a.length : Int)) then (nthT a i).bind fun x1 => (nthT b i).bind fun x2 => (sEqualExpr n x1.eta x2.eta).bind fun x3 => bif (!x3) then some false else sEqualExpr.l4 n (sEqualExpr n) m (w64 ((i : Int) + 1)) (.mk k nm q (.mk tk ta) a) (.mk k' nm' q' (.mk tk' ta') b) else some true) = _
        rw [dec_lt hi, cond_true, h1, h2, Option.bind_some, Option.bind_some, Ex.eta_eq, Ex.eta_eq, ih n (by omega) x y (Ex.oks_iff.1 o4 x hx) (by have := Ex.mL_mem hx; omega), Option.bind_some]
        cases Ex.beq x y <;> rfl
      · show (bif decide ((a.length : Int) < (a.length : Int)) then _ else some true) = _
        rw [dec_nlt]; rfl
    simp only [Ex.beq, Ex.beqs_eq, bne_int, len_beq]
    generalize sEqualExpr.l4 n (sEqualExpr n) n 0 (.mk k nm q (.mk tk ta) a) (.mk k' nm' q' (.mk tk' ta') b) = L at loop ⊢
    cases hlen : (a.length == b.length)
    · rw [beqL_lenF hlen]
      cases (k == k') <;> cases (seqT nm nm') <;> cases (q == q') <;> cases (Ty.beq (.mk tk ta) (.mk tk' ta')) <;> rfl
    · rw [loop (by simpa using hlen)]
      cases (k == k') <;> cases (seqT nm nm') <;> cases (q == q') <;> cases (Ty.beq (.mk tk ta) (.mk tk' ta')) <;> rfl
theorem sEqualCore_ok : ∀ (n : Nat) (t u : Co), t.ok → t.m ≤ n → sEqualCore n t u = some (Co.beq t u) := by
  intro n
  induction n using Nat.strongRecOn with
  | ind n ih =>
    rintro ⟨k, nm, q, ⟨tk, ta⟩, ⟨uk, ua⟩, a, e⟩ ⟨k', nm', q', ⟨tk', ta'⟩, ⟨uk', ua'⟩, b, g⟩ ⟨o1, o2, o3, o4, o5, o6, o7⟩ hm
    simp only [Co.m] at hm
    have hl := Co.mL_len a
    have hl2 := Co.mE_len e
    obtain ⟨n, rfl⟩ : ∃ q, n = q + 1 := ⟨n - 1, by omega⟩
    let A : Co := .mk k nm q (.mk tk ta) (.mk uk ua) a e
    let B : Co := .mk k' nm' q' (.mk tk' ta') (.mk uk' ua') b g
    show ((gd (!(((k != k') || (!(seqT nm nm'))) || (q != q'))) (sEqualType n (.mk tk ta) (.mk tk' ta')) false).bind fun x1 =>
      (gd (!((((k != k') || (!(seqT nm nm'))) || (q != q')) || (!x1))) (sEqualType n (.mk uk ua) (.mk uk' ua')) false).bind fun x2 =>
      bif (((((((k != k') || (!(seqT nm nm'))) || (q != q')) || (!x1)) || (!x2)) || ((a.length : Int) != (b.length : Int))) || ((e.length : Int) != (g.length : Int))) then some false else sEqualCore.l4 n (sEqualCore n) n 0 A B) = _
    rw [sEqualType_ok n _ _ o2 (by omega), sEqualType_ok n _ _ o3 (by omega)]
    have loop9 : ∀ m, e.length < m → e.length = g.length → sEqualCore.l9 n (sEqualCore n) m 0 A B = some (beqL Bi.beq e g) := fun m hm hl2 => by
      rw [eq_loopG Bi.beq (fun m i => sEqualCore.l9 n (sEqualCore n) m i A B) (fun _ => some true) e g o6 hl2 (fun m i x y hi hx h1 h2 => ?_) (fun m => ?_) m hm]
      · cases beqL Bi.beq e g <;> rfl
      · show (bif decide ((i : Int) < (e.length : Int)) then (nthT e i).bind fun x1 => (nthT g i).bind fun x2 =>
          (gd (!(!(seqT x1.1 x2.1))) (nthT e i) (UU.dflt 6)).bind fun x3 => (gd (!(!(seqT x1.1 x2.1))) (nthT g i) (UU.dflt 6)).bind fun x4 =>
          (gd (!(!(seqT x1.1 x2.1))) (sEqualCore n x3.2.eta x4.2.eta) false).bind fun x5 =>
          bif ((!(seqT x1.1 x2.1)) || (!x5)) then some false else sEqualCore.l9 n (sEqualCore n) m (w64 ((i : Int) + 1)) A B else some true) = _
        have hr : sEqualCore n x.2 y.2 = some (Co.beq x.2 y.2) := ih n (by omega) x.2 y.2 (Co.okE_iff.1 o7 x hx).2 (by have := Co.mE_mem hx; simp only [Bi.m] at this; omega)
        rw [dec_lt hi, cond_true, h1, h2, Option.bind_some, Option.bind_some]
        simp only [Bi.beq]
        cases seqT x.1 y.1
        · rfl
        · show (sEqualCore n x.2.eta y.2.eta).bind _ = _
          rw [Co.eta_eq, Co.eta_eq, hr, Option.bind_some]
          cases Co.beq x.2 y.2 <;> rfl
      · show (bif decide ((e.length : Int) < (e.length : Int)) then _ else some true) = _
        rw [dec_nlt]; rfl
    have loop : a.length = b.length → e.length = g.length → sEqualCore.l4 n (sEqualCore n) n 0 A B = some (beqL Co.beq a b && beqL Bi.beq e g) := fun hl2 hl3 => by
      rw [eq_loopG Co.beq (fun m i => sEqualCore.l4 n (sEqualCore n) m i A B) (fun m => sEqualCore.l9 n (sEqualCore n) m 0 A B) a b o4 hl2 (fun m i x y hi hx h1 h2 => ?_) (fun m => ?_) n (by omega)]
      · rw [loop9 _ (by omega) hl3]
        cases beqL Co.beq a b <;> rfl
      · show (bif decide ((i : Int) < (a.length : Int)) then (nthT a i).bind fun x1 => (nthT b i).bind fun x2 => (sEqualCore n x1.eta x2.eta).bind fun x3 => bif (!x3) then some false else sEqualCore.l4 n (sEqualCore n) m (w64 ((i : Int) + 1)) A B else sEqualCore.l9 n (sEqualCore n) m 0 A B) = _
        rw [dec_lt hi, cond_true, h1, h2, Option.bind_some, Option.bind_some, Co.eta_eq, Co.eta_eq, ih n (by omega) x y (Co.oks_iff.1 o5 x hx) (by have := Co.mL_mem hx; omega), Option.bind_some]
        cases Co.beq x y <;> rfl
      · show (bif decide ((a.length : Int) < (a.length : Int)) then _ else sEqualCore.l9 n (sEqualCore n) m 0 A B) = _
        rw [dec_nlt]; rfl
    simp only [Co.beq, Co.beqs_eq, Co.beqE_eq, bne_int, len_beq]
    generalize sEqualCore.l4 n (sEqualCore n) n 0 A B = L at loop ⊢
    cases hlen : (a.length == b.length)
    · rw [beqL_lenF hlen]
      cases (k == k') <;> cases (seqT nm nm') <;> cases (q == q') <;> cases (Ty.beq (.mk tk ta) (.mk tk' ta')) <;> cases (Ty.beq (.mk uk ua) (.mk uk' ua')) <;> rfl
    · cases hlen2 : (e.length == g.length)
      · rw [beqL_lenF hlen2]
        cases (k == k') <;> cases (seqT nm nm') <;> cases (q == q') <;> cases (Ty.beq (.mk tk ta) (.mk tk' ta')) <;> cases (Ty.beq (.mk uk ua) (.mk uk' ua')) <;> cases beqL Co.beq a b <;> rfl
      · rw [loop (by simpa using hlen) (by simpa using hlen2)]
        cases (k == k') <;> cases (seqT nm nm') <;> cases (q == q') <;> cases (Ty.beq (.mk tk ta) (.mk tk' ta')) <;> cases (Ty.beq (.mk uk ua) (.mk uk' ua')) <;> cases beqL Co.beq a b <;> cases beqL Bi.beq e g <;> rfl
theorem sEqualBinds_ok (n : Nat) (e g : List Bi) (he : e.length ≤ 9223372036854775807) (ho : ∀ x ∈ e, Bi.ok x) (hm : Co.mE e < n) : sEqualBinds n e g = some (beqL Bi.beq e g) := by
  have hl2 := Co.mE_len e
  show (bif ((e.length : Int) != (g.length : Int)) then some false else sEqualBinds.l4 n n e g 0) = _
  refine eq_list Bi.beq fun hl => ?_
  rw [eq_loopG Bi.beq (fun m i => sEqualBinds.l4 n m e g i) (fun _ => some true) e g he hl (fun m i x y hi hx h1 h2 => ?_) (fun m => ?_) n (by omega)]
  · cases beqL Bi.beq e g <;> rfl
  · show (bif decide ((i : Int) < (e.length : Int)) then (nthT e i).bind fun x1 => (nthT g i).bind fun x2 =>
      (gd (!(!(seqT x1.1 x2.1))) (nthT e i) (UU.dflt 6)).bind fun x3 => (gd (!(!(seqT x1.1 x2.1))) (nthT g i) (UU.dflt 6)).bind fun x4 =>
      (gd (!(!(seqT x1.1 x2.1))) (sEqualCore n x3.2.eta x4.2.eta) false).bind fun x5 =>
      bif ((!(seqT x1.1 x2.1)) || (!x5)) then some false else sEqualBinds.l4 n m e g (w64 ((i : Int) + 1)) else some true) = _
    have hr : sEqualCore n x.2 y.2 = some (Co.beq x.2 y.2) := sEqualCore_ok n x.2 y.2 (ho x hx).2 (by have := Co.mE_mem hx; simp only [Bi.m] at this; omega)
    rw [dec_lt hi, cond_true, h1, h2, Option.bind_some, Option.bind_some]
    simp only [Bi.beq]
    cases seqT x.1 y.1
    · rfl
    · show (sEqualCore n x.2.eta y.2.eta).bind _ = _
      rw [Co.eta_eq, Co.eta_eq, hr, Option.bind_some]
      cases Co.beq x.2 y.2 <;> rfl
  · show (bif decide ((e.length : Int) < (e.length : Int)) then _ else some true) = _
    rw [dec_nlt]; rfl

theorem zEqualFunc_Type_EqualType_ok {n : Nat} (a b : List Ty) (ha : a.length ≤ 9223372036854775807) (hn : a.length < n) (hel : ∀ x ∈ a, ∀ y, iEqualType n x y = some (Ty.beq x y)) : zEqualFunc_Type_EqualType (n + 1) a b = some (beqL Ty.beq a b) := by
  show (bif ((a.length : Int) != (b.length : Int)) then some false else zEqualFunc_Type_EqualType.l4 n (iEqualType n) (zEqualFunc_Type_EqualType n) n b a (a.length : Int) 0) = _
  refine eq_list Ty.beq fun hl => ?_
  exact eq_loop Ty.beq (fun x y => iEqualType n x.eta y.eta) (fun m k => zEqualFunc_Type_EqualType.l4 n (iEqualType n) (zEqualFunc_Type_EqualType n) m b a (a.length : Int) k) a b ha hl (fun x hx y => by simp only [Ty.eta_eq]; exact hel x hx y) (fun m k hk => rfl) n hn
theorem iEqualType_ok : ∀ (n : Nat) (t u : Ty), t.ok → t.m ≤ n → iEqualType n t u = some (Ty.beq t u) := by
  intro n
  induction n using Nat.strongRecOn with
  | ind n ih =>
    rintro ⟨k, a⟩ ⟨k', b⟩ ⟨o1, o2⟩ hm
    simp only [Ty.m] at hm
    have hl := Ty.mL_len a
    obtain ⟨n, rfl⟩ : ∃ q, n = q + 2 := ⟨n - 2, by omega⟩
    show ((gd (k == k') (zEqualFunc_Type_EqualType (n + 1) a b) false).bind fun x1 => some ((k == k') && x1)) = _
    rw [zEqualFunc_Type_EqualType_ok a b o1 (by omega) fun x hx y => ih n (by omega) x y (Ty.oks_iff.1 o2 x hx) (by have := Ty.mL_mem hx; omega)]
    simp only [Ty.beq, Ty.beqs_eq]
    cases (k == k') <;> cases beqL Ty.beq a b <;> rfl
theorem zEqualFunc_Expr_EqualExpr_ok {n : Nat} (a b : List Ex) (ha : a.length ≤ 9223372036854775807) (hn : a.length < n) (hel : ∀ x ∈ a, ∀ y, iEqualExpr n x y = some (Ex.beq x y)) : zEqualFunc_Expr_EqualExpr (n + 1) a b = some (beqL Ex.beq a b) := by
  show (bif ((a.length : Int) != (b.length : Int)) then some false else zEqualFunc_Expr_EqualExpr.l4 n (iEqualExpr n) (zEqualFunc_Expr_EqualExpr n) n b a (a.length : Int) 0) = _
  refine eq_list Ex.beq fun hl => ?_
  exact eq_loop Ex.beq (fun x y => iEqualExpr n x.eta y.eta) (fun m k => zEqualFunc_Expr_EqualExpr.l4 n (iEqualExpr n) (zEqualFunc_Expr_EqualExpr n) m b a (a.length : Int) k) a b ha hl (fun x hx y => by simp only [Ex.eta_eq]; exact hel x hx y) (fun m k hk => rfl) n hn
theorem iEqualExpr_ok : ∀ (n : Nat) (t u : Ex), t.ok → t.m ≤ n → iEqualExpr n t u = some (Ex.beq t u) := by
  intro n
  induction n using Nat.strongRecOn with
  | ind n ih =>
    rintro ⟨k, nm, q, ⟨tk, ta⟩, a⟩ ⟨k', nm', q', ⟨tk', ta'⟩, b⟩ ⟨o1, o2, o3, o4⟩ hm
    simp only [Ex.m] at hm
    have hl := Ex.mL_len a
    obtain ⟨n, rfl⟩ : ∃ q, n = q + 2 := ⟨n - 2, by omega⟩
    show ((gd (((k == k') && (seqT nm nm')) && (q == q')) (iEqualType (n + 1) (.mk tk ta) (.mk tk' ta')) false).bind fun x1 =>
      (gd ((((k == k') && (seqT nm nm')) && (q == q')) && x1) (zEqualFunc_Expr_EqualExpr (n + 1) a b) false).bind fun x2 =>
      some (((((k == k') && (seqT nm nm')) && (q == q')) && x1) && x2)) = _
    rw [iEqualType_ok (n + 1) _ _ o2 (by omega), zEqualFunc_Expr_EqualExpr_ok a b o3 (by omega) fun x hx y => ih n (by omega) x y (Ex.oks_iff.1 o4 x hx) (by have := Ex.mL_mem hx; omega)]
    simp only [Ex.beq, Ex.beqs_eq]
    cases (k == k') <;> cases (seqT nm nm') <;> cases (q == q') <;> cases (Ty.beq (.mk tk ta) (.mk tk' ta')) <;> cases beqL Ex.beq a b <;> rfl
theorem zEqualFunc_Core_EqualCore_ok {n : Nat} (a b : List Co) (ha : a.length ≤ 9223372036854775807) (hn : a.length < n) (hel : ∀ x ∈ a, ∀ y, iEqualCore n x y = some (Co.beq x y)) : zEqualFunc_Core_EqualCore (n + 1) a b = some (beqL Co.beq a b) := by
  show (bif ((a.length : Int) != (b.length : Int)) then some false else zEqualFunc_Core_EqualCore.l4 n (iEqualCore n) (zEqualFunc_Core_EqualCore n) (zEqualFunc_CoreBind_EqualBind n) (iEqualBind n) n b a (a.length : Int) 0) = _
  refine eq_list Co.beq fun hl => ?_
  exact eq_loop Co.beq (fun x y => iEqualCore n x.eta y.eta) (fun m k => zEqualFunc_Core_EqualCore.l4 n (iEqualCore n) (zEqualFunc_Core_EqualCore n) (zEqualFunc_CoreBind_EqualBind n) (iEqualBind n) m b a (a.length : Int) k) a b ha hl (fun x hx y => by simp only [Co.eta_eq]; exact hel x hx y) (fun m k hk => rfl) n hn
theorem zEqualFunc_CoreBind_EqualBind_ok {n : Nat} (a b : List Bi) (ha : a.length ≤ 9223372036854775807) (hn : a.length < n) (hel : ∀ x ∈ a, ∀ y, iEqualBind n x y = some (Bi.beq x y)) : zEqualFunc_CoreBind_EqualBind (n + 1) a b = some (beqL Bi.beq a b) := by
  show (bif ((a.length : Int) != (b.length : Int)) then some false else zEqualFunc_CoreBind_EqualBind.l4 n (iEqualCore n) (zEqualFunc_Core_EqualCore n) (zEqualFunc_CoreBind_EqualBind n) (iEqualBind n) n b a (a.length : Int) 0) = _
  refine eq_list Bi.beq fun hl => ?_
  exact eq_loop Bi.beq (fun x y => iEqualBind n (Bi.eta x) (Bi.eta y)) (fun m k => zEqualFunc_CoreBind_EqualBind.l4 n (iEqualCore n) (zEqualFunc_Core_EqualCore n) (zEqualFunc_CoreBind_EqualBind n) (iEqualBind n) m b a (a.length : Int) k) a b ha hl (fun x hx y => by simp only [Bi.eta_eq]; exact hel x hx y) (fun m k hk => rfl) n hn
theorem iEqualBind_ok {n : Nat} (x y : Bi) (h : iEqualCore n x.2 y.2 = some (Co.beq x.2 y.2)) : iEqualBind (n + 1) x y = some (Bi.beq x y) := by
  show ((gd (seqT x.1 y.1) (iEqualCore n x.2.eta y.2.eta) false).bind fun x1 => some ((seqT x.1 y.1) && x1)) = _
  rw [Co.eta_eq, Co.eta_eq, h]
  simp only [Bi.beq]
  cases seqT x.1 y.1 <;> cases Co.beq x.2 y.2 <;> rfl
theorem iEqualCore_ok : ∀ (n : Nat) (t u : Co), t.ok → t.m ≤ n → iEqualCore n t u = some (Co.beq t u) := by
  intro n
  induction n using Nat.strongRecOn with
  | ind n ih =>
    rintro ⟨k, nm, q, ⟨tk, ta⟩, ⟨uk, ua⟩, a, e⟩ ⟨k', nm', q', ⟨tk', ta'⟩, ⟨uk', ua'⟩, b, g⟩ ⟨o1, o2, o3, o4, o5, o6, o7⟩ hm
    simp only [Co.m] at hm
    have hl := Co.mL_len a
    have hl2 := Co.mE_len e
    obtain ⟨n, rfl⟩ : ∃ q, n = q + 3 := ⟨n - 3, by omega⟩
    show ((gd (((k == k') && (seqT nm nm')) && (q == q')) (iEqualType (n + 2) (.mk tk ta) (.mk tk' ta')) false).bind fun x1 =>
      (gd ((((k == k') && (seqT nm nm')) && (q == q')) && x1) (iEqualType (n + 2) (.mk uk ua) (.mk uk' ua')) false).bind fun x2 =>
      (gd (((((k == k') && (seqT nm nm')) && (q == q')) && x1) && x2) (zEqualFunc_Core_EqualCore (n + 2) a b) false).bind fun x3 =>
      (gd ((((((k == k') && (seqT nm nm')) && (q == q')) && x1) && x2) && x3) (zEqualFunc_CoreBind_EqualBind (n + 2) e g) false).bind fun x4 =>
      some (((((((k == k') && (seqT nm nm')) && (q == q')) && x1) && x2) && x3) && x4)) = _
    rw [iEqualType_ok (n + 2) _ _ o2 (by omega), iEqualType_ok (n + 2) _ _ o3 (by omega), zEqualFunc_Core_EqualCore_ok (n := n + 1) a b o4 (by omega) fun x hx y => ih (n + 1) (by omega) x y (Co.oks_iff.1 o5 x hx) (by have := Co.mL_mem hx; omega),
      zEqualFunc_CoreBind_EqualBind_ok (n := n + 1) e g o6 (by omega) fun x hx y => iEqualBind_ok x y (ih n (by omega) x.2 y.2 (Co.okE_iff.1 o7 x hx).2 (by have := Co.mE_mem hx; simp only [Bi.m] at this; omega))]
    simp only [Co.beq, Co.beqs_eq, Co.beqE_eq]
    cases (k == k') <;> cases (seqT nm nm') <;> cases (q == q') <;> cases (Ty.beq (.mk tk ta) (.mk tk' ta')) <;> cases (Ty.beq (.mk uk ua) (.mk uk' ua')) <;> cases beqL Co.beq a b <;> cases beqL Bi.beq e g <;> rfl
theorem iEqualBinds_ok (n : Nat) (e g : List Bi) (he : e.length ≤ 9223372036854775807) (ho : ∀ x ∈ e, Bi.ok x) (hm : Co.mE e + 3 ≤ n) : iEqualBinds n e g = some (beqL Bi.beq e g) := by
  have hl2 := Co.mE_len e
  obtain ⟨n, rfl⟩ : ∃ q, n = q + 2 := ⟨n - 2, by omega⟩
  show ((zEqualFunc_CoreBind_EqualBind (n + 2) e g).bind fun x1 => some x1) = _
  rw [zEqualFunc_CoreBind_EqualBind_ok (n := n + 1) e g he (by omega) fun x hx y => iEqualBind_ok x y (iEqualCore_ok n x.2 y.2 (ho x hx).2 (by have := Co.mE_mem hx; simp only [Bi.m] at this; omega))]
  rfl
end Go.Proofs.Ytbbncbojkkackaa
