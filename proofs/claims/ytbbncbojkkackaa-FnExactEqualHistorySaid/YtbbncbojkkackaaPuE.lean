/- Sizes, copies and equalities, as the laws and both programs compute them. -/
import Derived.Test.YtbbncbojkkackaaPuD
import Derived.Test.YtbbncbojkkackaaFd
set_option linter.unusedVariables false
set_option linter.unusedSimpArgs false
namespace Go.Proofs.Ytbbncbojkkackaa
open Go.Tx Go.Pu

theorem szR_fix {s : Nat} {l : Int} : (bif decide (szR s l < 0) then some (-1) else some (szR s l)) = some (szR s l) := by
  unfold szR
  split
  · rename_i h
    have : decide (l - (s : Int) < 0) = false := by simp; omega
    rw [this]; rfl
  · rfl
theorem szR_le {s : Nat} {l : Int} (h1 : l ≤ 1048576) : szR s l ≤ 1048576 := by unfold szR; split <;> omega
/-- A first size. -/
theorem sz_str {s : Nat} (hs : s ≤ 9223372036854775807) {l : Int} (h0 : 0 ≤ l) (h1 : l ≤ 1048576) {t : Nat} {x : Option Int} (h : (s : Int) ≤ l → x = some (szR t (l - s))) :
    (bif (decide ((w64 (l - (s : Int))) < 0)) then some (-1) else x) = some (szR (s + t) l) := by
  rw [w64_id (by omega) (by omega)]
  by_cases hl : (s : Int) ≤ l
  · have : decide (l - (s : Int) < 0) = false := by simp; omega
    rw [this, cond_false, h hl]
    unfold szR
    congr 1
    split <;> split <;> omega
  · have : decide (l - (s : Int) < 0) = true := by simp; omega
    rw [this, cond_true]
    unfold szR
    rw [if_neg (by omega)]

theorem lSzTypeS_ok {n : Nat} (a : List Ty) (l : Int) (h0 : 0 ≤ l) (h1 : l ≤ 1048576) (ha : a.length ≤ 9223372036854775807) (hn : a.length < n)
    (hel : ∀ x ∈ a, ∀ l : Int, 0 ≤ l → l ≤ 1048576 → lSzType n x l = some (szR (Ty.sz x) l)) : lSzTypeS (n + 1) a l = some (szR (szL Ty.sz a) l) := by
  show (bif (decide ((w64 (l - (a.length : Int))) < 0)) then some (-1) else lSzTypeS.l5 n (lSzType n) (lSzTypeS n) n a (w64 (l - (a.length : Int))) 0) = _
  refine szR_len Ty.sz a ha h0 h1 fun hle => ?_
  rw [w64_id (by omega) (by omega)]
  exact sz_loop Ty.sz (fun x l => lSzType n x.eta l) (fun m k l => lSzTypeS.l5 n (lSzType n) (lSzTypeS n) m a l k) a ha (fun x hx l q1 q2 => by simp only [Ty.eta_eq]; exact hel x hx l q1 q2) (fun m k l hk => rfl) n _ (by omega) (by omega) hn
theorem lSzType_ok : ∀ (n : Nat) (t : Ty), t.ok → t.m ≤ n → ∀ l : Int, 0 ≤ l → l ≤ 1048576 → lSzType n t l = some (szR t.sz l) := by
  intro n
  induction n using Nat.strongRecOn with
  | ind n ih =>
    rintro ⟨k, a⟩ ⟨o1, o2⟩ hm l h0 h1
    simp only [Ty.m] at hm
    have hl := Ty.mL_len a
    obtain ⟨n, rfl⟩ : ∃ q, n = q + 2 := ⟨n - 2, by omega⟩
    show (lSzTypeS (n + 1) a l).bind (fun x1 => bif (decide (x1 < 0)) then some (-1) else some x1) = _
    rw [lSzTypeS_ok a l h0 h1 o1 (by omega) fun x hx => ih n (by omega) x (Ty.oks_iff.1 o2 x hx) (by have := Ty.mL_mem hx; omega), Option.bind_some, szR_fix]
    simp only [Ty.sz, Ty.szs_eq]
theorem lSzExprS_ok {n : Nat} (a : List Ex) (l : Int) (h0 : 0 ≤ l) (h1 : l ≤ 1048576) (ha : a.length ≤ 9223372036854775807) (hn : a.length < n)
    (hel : ∀ x ∈ a, ∀ l : Int, 0 ≤ l → l ≤ 1048576 → lSzExpr n x l = some (szR (Ex.sz x) l)) : lSzExprS (n + 1) a l = some (szR (szL Ex.sz a) l) := by
  show (bif (decide ((w64 (l - (a.length : Int))) < 0)) then some (-1) else lSzExprS.l5 n (lSzExpr n) (lSzExprS n) n a (w64 (l - (a.length : Int))) 0) = _
  refine szR_len Ex.sz a ha h0 h1 fun hle => ?_
  rw [w64_id (by omega) (by omega)]
  exact sz_loop Ex.sz (fun x l => lSzExpr n x.eta l) (fun m k l => lSzExprS.l5 n (lSzExpr n) (lSzExprS n) m a l k) a ha (fun x hx l q1 q2 => by simp only [Ex.eta_eq]; exact hel x hx l q1 q2) (fun m k l hk => rfl) n _ (by omega) (by omega) hn
theorem lSzExpr_ok : ∀ (n : Nat) (t : Ex), t.ok → t.m ≤ n → ∀ l : Int, 0 ≤ l → l ≤ 1048576 → lSzExpr n t l = some (szR t.sz l) := by
  intro n
  induction n using Nat.strongRecOn with
  | ind n ih =>
    rintro ⟨k, nm, q, ⟨tk, ta⟩, a⟩ ⟨o1, o2, o3, o4⟩ hm l h0 h1
    simp only [Ex.m] at hm
    have hl := Ex.mL_len a
    obtain ⟨n, rfl⟩ : ∃ q, n = q + 2 := ⟨n - 2, by omega⟩
    show (bif (decide ((w64 (l - (nm.size : Int))) < 0)) then some (-1)
      else (lSzType (n + 1) (.mk tk ta) (w64 (l - (nm.size : Int)))).bind fun x1 => bif (decide (x1 < 0)) then some (-1)
      else (lSzExprS (n + 1) a x1).bind fun x2 => bif (decide (x2 < 0)) then some (-1) else some x2) = _
    simp only [Ex.sz, Nat.add_assoc]
    refine sz_str o1 h0 h1 fun hs => ?_
    rw [w64_id (by omega) (by omega), lSzType_ok (n + 1) _ o2 (by omega) _ (by omega) (by omega), Option.bind_some]
    refine szR_step (by omega) fun hs2 => ?_
    rw [show szR (Ty.mk tk ta).sz (l - nm.size) = l - nm.size - (Ty.mk tk ta).sz by rw [szR, if_pos hs2], lSzExprS_ok a _ (by omega) (by omega) o3 (by omega) fun x hx => ih n (by omega) x (Ex.oks_iff.1 o4 x hx) (by have := Ex.mL_mem hx; omega), Option.bind_some, szR_fix, Ex.szs_eq]
theorem lSzCoreS_ok {n : Nat} (a : List Co) (l : Int) (h0 : 0 ≤ l) (h1 : l ≤ 1048576) (ha : a.length ≤ 9223372036854775807) (hn : a.length < n)
    (hel : ∀ x ∈ a, ∀ l : Int, 0 ≤ l → l ≤ 1048576 → lSzCore n x l = some (szR (Co.sz x) l)) : lSzCoreS (n + 1) a l = some (szR (szL Co.sz a) l) := by
  show (bif (decide ((w64 (l - (a.length : Int))) < 0)) then some (-1) else lSzCoreS.l5 n (lSzCore n) (lSzCoreS n) (lSzCoreBindS n) (lSzCoreBind n) n a (w64 (l - (a.length : Int))) 0) = _
  refine szR_len Co.sz a ha h0 h1 fun hle => ?_
  rw [w64_id (by omega) (by omega)]
  exact sz_loop Co.sz (fun x l => lSzCore n x.eta l) (fun m k l => lSzCoreS.l5 n (lSzCore n) (lSzCoreS n) (lSzCoreBindS n) (lSzCoreBind n) m a l k) a ha (fun x hx l q1 q2 => by simp only [Co.eta_eq]; exact hel x hx l q1 q2) (fun m k l hk => rfl) n _ (by omega) (by omega) hn
theorem lSzCoreBindS_ok {n : Nat} (a : List Bi) (l : Int) (h0 : 0 ≤ l) (h1 : l ≤ 1048576) (ha : a.length ≤ 9223372036854775807) (hn : a.length < n)
    (hel : ∀ x ∈ a, ∀ l : Int, 0 ≤ l → l ≤ 1048576 → lSzCoreBind n x l = some (szR (Bi.sz x) l)) : lSzCoreBindS (n + 1) a l = some (szR (szL Bi.sz a) l) := by
  show (bif (decide ((w64 (l - (a.length : Int))) < 0)) then some (-1) else lSzCoreBindS.l5 n (lSzCore n) (lSzCoreS n) (lSzCoreBindS n) (lSzCoreBind n) n a (w64 (l - (a.length : Int))) 0) = _
  refine szR_len Bi.sz a ha h0 h1 fun hle => ?_
  rw [w64_id (by omega) (by omega)]
  exact sz_loop Bi.sz (fun x l => lSzCoreBind n (Bi.eta x) l) (fun m k l => lSzCoreBindS.l5 n (lSzCore n) (lSzCoreS n) (lSzCoreBindS n) (lSzCoreBind n) m a l k) a ha (fun x hx l q1 q2 => by simp only [Bi.eta_eq]; exact hel x hx l q1 q2) (fun m k l hk => rfl) n _ (by omega) (by omega) hn
theorem lSzCore_ok : ∀ (n : Nat) (t : Co), t.ok → t.m ≤ n → ∀ l : Int, 0 ≤ l → l ≤ 1048576 → lSzCore n t l = some (szR t.sz l) := by
  intro n
  induction n using Nat.strongRecOn with
  | ind n ih =>
    rintro ⟨k, nm, q, ⟨tk, ta⟩, ⟨uk, ua⟩, a, e⟩ ⟨o1, o2, o3, o4, o5, o6, o7⟩ hm l h0 h1
    simp only [Co.m] at hm
    have hl := Co.mL_len a
    have hl2 := Co.mE_len e
    obtain ⟨n, rfl⟩ : ∃ q, n = q + 3 := ⟨n - 3, by omega⟩
    show (bif (decide ((w64 (l - (nm.size : Int))) < 0)) then some (-1)
      else (lSzType (n + 2) (.mk tk ta) (w64 (l - (nm.size : Int)))).bind fun x1 => bif (decide (x1 < 0)) then some (-1)
      else (lSzType (n + 2) (.mk uk ua) x1).bind fun x1 => bif (decide (x1 < 0)) then some (-1)
      else (lSzCoreS (n + 2) a x1).bind fun x1 => bif (decide (x1 < 0)) then some (-1)
      else (lSzCoreBindS (n + 2) e x1).bind fun x2 => bif (decide (x2 < 0)) then some (-1) else some x2) = _
    simp only [Co.sz, Nat.add_assoc]
    refine sz_str o1 h0 h1 fun hs => ?_
    rw [w64_id (by omega) (by omega), lSzType_ok (n + 2) _ o2 (by omega) _ (by omega) (by omega), Option.bind_some]
    refine szR_step (by omega) fun hs2 => ?_
    rw [show szR (Ty.mk tk ta).sz (l - nm.size) = l - nm.size - (Ty.mk tk ta).sz by rw [szR, if_pos hs2], lSzType_ok (n + 2) _ o3 (by omega) _ (by omega) (by omega), Option.bind_some]
    refine szR_step (by omega) fun hs3 => ?_
    rw [show szR (Ty.mk uk ua).sz (l - nm.size - (Ty.mk tk ta).sz) = l - nm.size - (Ty.mk tk ta).sz - (Ty.mk uk ua).sz by rw [szR, if_pos hs3], lSzCoreS_ok (n := n + 1) a _ (by omega) (by omega) o4 (by omega) fun x hx => ih (n + 1) (by omega) x (Co.oks_iff.1 o5 x hx) (by have := Co.mL_mem hx; omega), Option.bind_some, ← Co.szs_eq]
    refine szR_step (by omega) fun hs4 => ?_
    rw [show szR (Co.szs a) (l - nm.size - (Ty.mk tk ta).sz - (Ty.mk uk ua).sz) = l - nm.size - (Ty.mk tk ta).sz - (Ty.mk uk ua).sz - Co.szs a by rw [szR, if_pos hs4], lSzCoreBindS_ok (n := n + 1) e _ (by omega) (by omega) o6 (by omega) ?_, Option.bind_some, szR_fix, Co.szE_eq]
    rintro ⟨nm', c⟩ hx l' g0 g1
    have ho := Co.okE_iff.1 o7 _ hx
    have hmm := Co.mE_mem hx
    have he : lSzCoreBind (n + 1) (nm', c) l' = (bif (decide ((w64 (l' - (nm'.size : Int))) < 0)) then some (-1) else (lSzCore n c.eta (w64 (l' - (nm'.size : Int)))).bind fun x1 => bif (decide (x1 < 0)) then some (-1) else some x1) := rfl
    rw [he, Co.eta_eq]
    show _ = some (szR (nm'.size + Co.sz c) l')
    have ho1 : nm'.size ≤ 9223372036854775807 := ho.1
    refine sz_str ho1 g0 g1 fun hs5 => ?_
    have hs5 : (nm'.size : Int) ≤ l' := hs5
    rw [w64_id (by omega) (by omega), ih n (by omega) c ho.2 (by simp only [Bi.m] at hmm; omega) _ (by omega) (by omega), Option.bind_some, szR_fix]
theorem lToTypeS_ok {n : Nat} (a : List Ty) (ha : a.length ≤ 1048576) (hn : a.length < n) (hel : ∀ x ∈ a, lToType n x = some x) : lToTypeS (n + 1) a = some a := by
  show (bif makeT (a.length : Int) 32 then lToTypeS.l3 n (lToType n) (lToTypeS n) n a (a.length : Int) 0 (List.replicate (a.length : Int).toNat (UU.dflt 3)) else none) = _
  rw [makeT_ok ha (by omega), cond_true]
  exact to_loop (fun x => (lToType n x.eta).bind fun y => some y.eta) (fun m k b => lToTypeS.l3 n (lToType n) (lToTypeS n) m a (a.length : Int) k b) a (by omega) (fun x hx => by simp only [Ty.eta_eq, hel x hx, Option.bind_some]) (fun m k b hk => by
    show (bif _ then _ else _) = _
    simp only [Ty.eta_eq, Option.bind_assoc, Option.bind_some]) n _ (List.length_replicate.trans (by simp)) hn
theorem lToType_ok : ∀ (n : Nat) (t : Ty), t.sz ≤ 1048576 → t.m ≤ n → lToType n t = some t := by
  intro n
  induction n using Nat.strongRecOn with
  | ind n ih =>
    rintro ⟨k, a⟩ hs hm
    simp only [Ty.m] at hm
    simp only [Ty.sz, Ty.szs_eq] at hs
    have hl := Ty.mL_len a
    have hl2 := szL_len Ty.sz a
    obtain ⟨n, rfl⟩ : ∃ q, n = q + 2 := ⟨n - 2, by omega⟩
    show (lToTypeS (n + 1) a).bind (fun x1 => some (Ty.mk k x1)) = _
    rw [lToTypeS_ok a (by omega) (by omega) fun x hx => ih n (by omega) x (by have := szL_mem (sz := Ty.sz) hx; omega) (by have := Ty.mL_mem hx; omega)]
    rfl
theorem lToExprS_ok {n : Nat} (a : List Ex) (ha : a.length ≤ 1048576) (hn : a.length < n) (hel : ∀ x ∈ a, lToExpr n x = some x) : lToExprS (n + 1) a = some a := by
  show (bif makeT (a.length : Int) 88 then lToExprS.l3 n (lToExpr n) (lToExprS n) n a (a.length : Int) 0 (List.replicate (a.length : Int).toNat (UU.dflt 4)) else none) = _
  rw [makeT_ok ha (by omega), cond_true]
  exact to_loop (fun x => (lToExpr n x.eta).bind fun y => some y.eta) (fun m k b => lToExprS.l3 n (lToExpr n) (lToExprS n) m a (a.length : Int) k b) a (by omega) (fun x hx => by simp only [Ex.eta_eq, hel x hx, Option.bind_some]) (fun m k b hk => by
    show (bif _ then _ else _) = _
    simp only [Ex.eta_eq, Option.bind_assoc, Option.bind_some]) n _ (List.length_replicate.trans (by simp)) hn
theorem lToExpr_ok : ∀ (n : Nat) (t : Ex), t.sz ≤ 1048576 → t.m ≤ n → lToExpr n t = some t := by
  intro n
  induction n using Nat.strongRecOn with
  | ind n ih =>
    rintro ⟨k, nm, q, ⟨tk, ta⟩, a⟩ hs hm
    simp only [Ex.m] at hm
    simp only [Ex.sz, Ex.szs_eq] at hs
    have hl := Ex.mL_len a
    have hl2 := szL_len Ex.sz a
    obtain ⟨n, rfl⟩ : ∃ q, n = q + 2 := ⟨n - 2, by omega⟩
    show (lToType (n + 1) (.mk tk ta)).bind (fun x1 => (lToExprS (n + 1) a).bind fun x2 => some (Ex.mk k nm q x1.eta x2)) = _
    rw [lToType_ok (n + 1) _ (by omega) (by omega), lToExprS_ok a (by omega) (by omega) fun x hx => ih n (by omega) x (by have := szL_mem (sz := Ex.sz) hx; omega) (by have := Ex.mL_mem hx; omega)]
    rfl
theorem lToCoreS_ok {n : Nat} (a : List Co) (ha : a.length ≤ 1048576) (hn : a.length < n) (hel : ∀ x ∈ a, lToCore n x = some x) : lToCoreS (n + 1) a = some a := by
  show (bif makeT (a.length : Int) 144 then lToCoreS.l3 n (lToCore n) (lToCoreS n) (lToCoreBindS n) (lToCoreBind n) n a (a.length : Int) 0 (List.replicate (a.length : Int).toNat (UU.dflt 5)) else none) = _
  rw [makeT_ok ha (by omega), cond_true]
  exact to_loop (fun x => (lToCore n x.eta).bind fun y => some y.eta) (fun m k b => lToCoreS.l3 n (lToCore n) (lToCoreS n) (lToCoreBindS n) (lToCoreBind n) m a (a.length : Int) k b) a (by omega) (fun x hx => by simp only [Co.eta_eq, hel x hx, Option.bind_some]) (fun m k b hk => by
    show (bif _ then _ else _) = _
    simp only [Co.eta_eq, Option.bind_assoc, Option.bind_some]) n _ (List.length_replicate.trans (by simp)) hn
theorem lToCoreBindS_ok {n : Nat} (a : List Bi) (ha : a.length ≤ 1048576) (hn : a.length < n) (hel : ∀ x ∈ a, lToCoreBind n x = some x) : lToCoreBindS (n + 1) a = some a := by
  show (bif makeT (a.length : Int) 160 then lToCoreBindS.l3 n (lToCore n) (lToCoreS n) (lToCoreBindS n) (lToCoreBind n) n a (a.length : Int) 0 (List.replicate (a.length : Int).toNat (UU.dflt 6)) else none) = _
  rw [makeT_ok ha (by omega), cond_true]
  exact to_loop (fun x => (lToCoreBind n (Bi.eta x)).bind fun y => some (Bi.eta y)) (fun m k b => lToCoreBindS.l3 n (lToCore n) (lToCoreS n) (lToCoreBindS n) (lToCoreBind n) m a (a.length : Int) k b) a (by omega) (fun x hx => by simp only [Bi.eta_eq, hel x hx, Option.bind_some]) (fun m k b hk => by
    show (bif _ then _ else _) = _
    simp only [Bi.eta_eq, Option.bind_assoc, Option.bind_some]) n _ (List.length_replicate.trans (by simp)) hn
theorem lToCore_ok : ∀ (n : Nat) (t : Co), t.sz ≤ 1048576 → t.m ≤ n → lToCore n t = some t := by
  intro n
  induction n using Nat.strongRecOn with
  | ind n ih =>
    rintro ⟨k, nm, q, ⟨tk, ta⟩, ⟨uk, ua⟩, a, e⟩ hs hm
    simp only [Co.m] at hm
    simp only [Co.sz, Co.szs_eq, Co.szE_eq] at hs
    have hl := Co.mL_len a
    have hl2 := szL_len Co.sz a
    have hl3 := Co.mE_len e
    have hl4 := szL_len Bi.sz e
    obtain ⟨n, rfl⟩ : ∃ q, n = q + 3 := ⟨n - 3, by omega⟩
    show (lToType (n + 2) (.mk tk ta)).bind (fun x1 => (lToType (n + 2) (.mk uk ua)).bind fun x2 => (lToCoreS (n + 2) a).bind fun x3 => (lToCoreBindS (n + 2) e).bind fun x4 => some (Co.mk k nm q x1.eta x2.eta x3 x4)) = _
    rw [lToType_ok (n + 2) _ (by omega) (by omega), Option.bind_some, lToType_ok (n + 2) _ (by omega) (by omega), Option.bind_some,
      lToCoreS_ok (n := n + 1) a (by omega) (by omega) fun x hx => ih (n + 1) (by omega) x (by have := szL_mem (sz := Co.sz) hx; omega) (by have := Co.mL_mem hx; omega), Option.bind_some,
      lToCoreBindS_ok (n := n + 1) e (by omega) (by omega) ?_]
    · rfl
    · rintro ⟨nm', c⟩ hx
      have h1 := szL_mem (sz := Bi.sz) hx
      have h2 := Co.mE_mem hx
      simp only [Bi.sz] at h1
      simp only [Bi.m] at h2
      have he : lToCoreBind (n + 1) (nm', c) = (lToCore n c.eta).bind fun x1 => some (nm', x1.eta) := rfl
      rw [he, Co.eta_eq, ih n (by omega) c (by omega) (by omega), Option.bind_some, Co.eta_eq]
theorem lEqTypeS_ok {n : Nat} (a b : List Ty) (ha : a.length ≤ 9223372036854775807) (hn : a.length < n) (hel : ∀ x ∈ a, ∀ y, lEqType n x y = some (Ty.beq x y)) : lEqTypeS (n + 1) a b = some (beqL Ty.beq a b) := by
  show (bif ((a.length : Int) != (b.length : Int)) then some false else lEqTypeS.l4 n (lEqType n) (lEqTypeS n) n a b 0) = _
  refine eq_list Ty.beq fun hl => ?_
  exact eq_loop Ty.beq (fun x y => lEqType n x.eta y.eta) (fun m k => lEqTypeS.l4 n (lEqType n) (lEqTypeS n) m a b k) a b ha hl (fun x hx y => by simp only [Ty.eta_eq]; exact hel x hx y) (fun m k hk => rfl) n hn
theorem bne_int (a b : Int) : (a != b) = !(a == b) := rfl
theorem lEqType_ok : ∀ (n : Nat) (t u : Ty), t.ok → t.m ≤ n → lEqType n t u = some (Ty.beq t u) := by
  intro n
  induction n using Nat.strongRecOn with
  | ind n ih =>
    rintro ⟨k, a⟩ ⟨k', b⟩ ⟨o1, o2⟩ hm
    simp only [Ty.m] at hm
    have hl := Ty.mL_len a
    obtain ⟨n, rfl⟩ : ∃ q, n = q + 2 := ⟨n - 2, by omega⟩
    show (bif (k != k') then some false else (lEqTypeS (n + 1) a b).bind fun x1 => bif (!x1) then some false else some true) = _
    rw [lEqTypeS_ok a b o1 (by omega) fun x hx y => ih n (by omega) x y (Ty.oks_iff.1 o2 x hx) (by have := Ty.mL_mem hx; omega)]
    simp only [Ty.beq, Ty.beqs_eq, bne_int]
    cases (k == k') <;> cases beqL Ty.beq a b <;> rfl
theorem lEqExprS_ok {n : Nat} (a b : List Ex) (ha : a.length ≤ 9223372036854775807) (hn : a.length < n) (hel : ∀ x ∈ a, ∀ y, lEqExpr n x y = some (Ex.beq x y)) : lEqExprS (n + 1) a b = some (beqL Ex.beq a b) := by
  show (bif ((a.length : Int) != (b.length : Int)) then some false else lEqExprS.l4 n (lEqExpr n) (lEqExprS n) n a b 0) = _
  refine eq_list Ex.beq fun hl => ?_
  exact eq_loop Ex.beq (fun x y => lEqExpr n x.eta y.eta) (fun m k => lEqExprS.l4 n (lEqExpr n) (lEqExprS n) m a b k) a b ha hl (fun x hx y => by simp only [Ex.eta_eq]; exact hel x hx y) (fun m k hk => rfl) n hn
theorem lEqExpr_ok : ∀ (n : Nat) (t u : Ex), t.ok → t.m ≤ n → lEqExpr n t u = some (Ex.beq t u) := by
  intro n
  induction n using Nat.strongRecOn with
  | ind n ih =>
    rintro ⟨k, nm, q, ⟨tk, ta⟩, a⟩ ⟨k', nm', q', ⟨tk', ta'⟩, b⟩ ⟨o1, o2, o3, o4⟩ hm
    simp only [Ex.m] at hm
    have hl := Ex.mL_len a
    obtain ⟨n, rfl⟩ : ∃ q, n = q + 2 := ⟨n - 2, by omega⟩
    show (bif (k != k') then some false else bif (!(seqT nm nm')) then some false else bif (q != q') then some false
      else (lEqType (n + 1) (.mk tk ta) (.mk tk' ta')).bind fun x1 => bif (!x1) then some false
      else (lEqExprS (n + 1) a b).bind fun x1 => bif (!x1) then some false else some true) = _
    rw [lEqType_ok (n + 1) _ _ o2 (by omega), lEqExprS_ok a b o3 (by omega) fun x hx y => ih n (by omega) x y (Ex.oks_iff.1 o4 x hx) (by have := Ex.mL_mem hx; omega)]
    simp only [Ex.beq, Ex.beqs_eq, bne_int]
    cases (k == k') <;> cases (seqT nm nm') <;> cases (q == q') <;> cases (Ty.beq (.mk tk ta) (.mk tk' ta')) <;> cases beqL Ex.beq a b <;> rfl
theorem lEqCoreS_ok {n : Nat} (a b : List Co) (ha : a.length ≤ 9223372036854775807) (hn : a.length < n) (hel : ∀ x ∈ a, ∀ y, lEqCore n x y = some (Co.beq x y)) : lEqCoreS (n + 1) a b = some (beqL Co.beq a b) := by
  show (bif ((a.length : Int) != (b.length : Int)) then some false else lEqCoreS.l4 n (lEqCore n) (lEqCoreS n) (lEqCoreBindS n) (lEqCoreBind n) n a b 0) = _
  refine eq_list Co.beq fun hl => ?_
  exact eq_loop Co.beq (fun x y => lEqCore n x.eta y.eta) (fun m k => lEqCoreS.l4 n (lEqCore n) (lEqCoreS n) (lEqCoreBindS n) (lEqCoreBind n) m a b k) a b ha hl (fun x hx y => by simp only [Co.eta_eq]; exact hel x hx y) (fun m k hk => rfl) n hn
theorem lEqCoreBindS_ok {n : Nat} (a b : List Bi) (ha : a.length ≤ 9223372036854775807) (hn : a.length < n) (hel : ∀ x ∈ a, ∀ y, lEqCoreBind n x y = some (Bi.beq x y)) : lEqCoreBindS (n + 1) a b = some (beqL Bi.beq a b) := by
  show (bif ((a.length : Int) != (b.length : Int)) then some false else lEqCoreBindS.l4 n (lEqCore n) (lEqCoreS n) (lEqCoreBindS n) (lEqCoreBind n) n a b 0) = _
  refine eq_list Bi.beq fun hl => ?_
  exact eq_loop Bi.beq (fun x y => lEqCoreBind n (Bi.eta x) (Bi.eta y)) (fun m k => lEqCoreBindS.l4 n (lEqCore n) (lEqCoreS n) (lEqCoreBindS n) (lEqCoreBind n) m a b k) a b ha hl (fun x hx y => by simp only [Bi.eta_eq]; exact hel x hx y) (fun m k hk => rfl) n hn
theorem lEqCore_ok : ∀ (n : Nat) (t u : Co), t.ok → t.m ≤ n → lEqCore n t u = some (Co.beq t u) := by
  intro n
  induction n using Nat.strongRecOn with
  | ind n ih =>
    rintro ⟨k, nm, q, ⟨tk, ta⟩, ⟨uk, ua⟩, a, e⟩ ⟨k', nm', q', ⟨tk', ta'⟩, ⟨uk', ua'⟩, b, g⟩ ⟨o1, o2, o3, o4, o5, o6, o7⟩ hm
    simp only [Co.m] at hm
    have hl := Co.mL_len a
    have hl2 := Co.mE_len e
    obtain ⟨n, rfl⟩ : ∃ q, n = q + 3 := ⟨n - 3, by omega⟩
    show (bif (k != k') then some false else bif (!(seqT nm nm')) then some false else bif (q != q') then some false
      else (lEqType (n + 2) (.mk tk ta) (.mk tk' ta')).bind fun x1 => bif (!x1) then some false
      else (lEqType (n + 2) (.mk uk ua) (.mk uk' ua')).bind fun x1 => bif (!x1) then some false
      else (lEqCoreS (n + 2) a b).bind fun x1 => bif (!x1) then some false
      else (lEqCoreBindS (n + 2) e g).bind fun x1 => bif (!x1) then some false else some true) = _
    rw [lEqType_ok (n + 2) _ _ o2 (by omega), lEqType_ok (n + 2) _ _ o3 (by omega), lEqCoreS_ok (n := n + 1) a b o4 (by omega) fun x hx y => ih (n + 1) (by omega) x y (Co.oks_iff.1 o5 x hx) (by have := Co.mL_mem hx; omega),
      lEqCoreBindS_ok (n := n + 1) e g o6 (by omega) ?_]
    · simp only [Co.beq, Co.beqs_eq, Co.beqE_eq, bne_int]
      cases (k == k') <;> cases (seqT nm nm') <;> cases (q == q') <;> cases (Ty.beq (.mk tk ta) (.mk tk' ta')) <;> cases (Ty.beq (.mk uk ua) (.mk uk' ua')) <;> cases beqL Co.beq a b <;> cases beqL Bi.beq e g <;> rfl
    · rintro ⟨nm', c⟩ hx ⟨nm2, c2⟩
      have h1 := Co.okE_iff.1 o7 _ hx
      have h2 := Co.mE_mem hx
      simp only [Bi.m] at h2
      have he : lEqCoreBind (n + 1) (nm', c) (nm2, c2) = (bif (!(seqT nm' nm2)) then some false else (lEqCore n c.eta c2.eta).bind fun x1 => bif (!x1) then some false else some true) := rfl
      rw [he, Co.eta_eq, Co.eta_eq, ih n (by omega) c c2 h1.2 (by omega)]
      simp only [Bi.beq]
      cases seqT nm' nm2 <;> cases Co.beq c c2 <;> rfl

end Go.Proofs.Ytbbncbojkkackaa
