/- Sizes, copies, equality and counts, as the laws and both programs compute them. -/
import Derived.Test.YtbbncbojkkackaaPuA
import Derived.Test.YtbbncbojkkackaaFd
set_option linter.unusedVariables false
set_option linter.unusedSimpArgs false
namespace Go.Proofs.Ytbbncbojkkackaa
open Go.Tx Go.Pu

theorem szR_fix {s : Nat} {l : Int} : (bif decide (szR s l < 0) then some (-1) else some (szR s l)) = some (szR s l) := by
  unfold szR
  split
  · rename_i h
    have : decide (l - (s : Int) < 0) = false := by simp; omega
    rw [this]; rfl
  · rfl
theorem szR_le {s : Nat} {l : Int} (h1 : l ≤ 1048576) : szR s l ≤ 1048576 := by unfold szR; split <;> omega
/-- A first size. -/
theorem sz_str {s : Nat} (hs : s ≤ 9223372036854775807) {l : Int} (h0 : 0 ≤ l) (h1 : l ≤ 1048576) {t : Nat} {x : Option Int} (h : (s : Int) ≤ l → x = some (szR t (l - s))) :
    (bif (decide ((w64 (l - (s : Int))) < 0)) then some (-1) else x) = some (szR (s + t) l) := by
  rw [w64_id (by omega) (by omega)]
  by_cases hl : (s : Int) ≤ l
  · have : decide (l - (s : Int) < 0) = false := by simp; omega
    rw [this, cond_false, h hl]
    unfold szR
    congr 1
    split <;> split <;> omega
  · have : decide (l - (s : Int) < 0) = true := by simp; omega
    rw [this, cond_true]
    unfold szR
    rw [if_neg (by omega)]

theorem lSzTypeS_ok {n : Nat} (a : List Ty) (l : Int) (h0 : 0 ≤ l) (h1 : l ≤ 1048576) (ha : a.length ≤ 9223372036854775807) (hn : a.length < n)
    (hel : ∀ x ∈ a, ∀ l : Int, 0 ≤ l → l ≤ 1048576 → lSzType n x l = some (szR (Ty.sz x) l)) : lSzTypeS (n + 1) a l = some (szR (szL Ty.sz a) l) := by
  show (bif (decide ((w64 (l - (a.length : Int))) < 0)) then some (-1) else lSzTypeS.l5 n (lSzType n) (lSzTypeS n) n a (w64 (l - (a.length : Int))) 0) = _
  refine szR_len Ty.sz a ha h0 h1 fun hle => ?_
  rw [w64_id (by omega) (by omega)]
  exact sz_loop Ty.sz (fun x l => lSzType n x.eta l) (fun m k l => lSzTypeS.l5 n (lSzType n) (lSzTypeS n) m a l k) a ha (fun x hx l q1 q2 => by simp only [Ty.eta_eq]; exact hel x hx l q1 q2) (fun m k l hk => rfl) n _ (by omega) (by omega) hn
theorem lSzType_ok : ∀ (n : Nat) (t : Ty), t.ok → t.m ≤ n → ∀ l : Int, 0 ≤ l → l ≤ 1048576 → lSzType n t l = some (szR t.sz l) := by
  intro n
  induction n using Nat.strongRecOn with
  | ind n ih =>
    rintro ⟨k, a⟩ ⟨o1, o2⟩ hm l h0 h1
    simp only [Ty.m] at hm
    have hl := Ty.mL_len a
    obtain ⟨n, rfl⟩ : ∃ q, n = q + 2 := ⟨n - 2, by omega⟩
    show (lSzTypeS (n + 1) a l).bind (fun x1 => bif (decide (x1 < 0)) then some (-1) else some x1) = _
    rw [lSzTypeS_ok a l h0 h1 o1 (by omega) fun x hx => ih n (by omega) x (Ty.oks_iff.1 o2 x hx) (by have := Ty.mL_mem hx; omega), Option.bind_some, szR_fix]
    simp only [Ty.sz, Ty.szs_eq]
theorem lSzExprS_ok {n : Nat} (a : List Ex) (l : Int) (h0 : 0 ≤ l) (h1 : l ≤ 1048576) (ha : a.length ≤ 9223372036854775807) (hn : a.length < n)
    (hel : ∀ x ∈ a, ∀ l : Int, 0 ≤ l → l ≤ 1048576 → lSzExpr n x l = some (szR (Ex.sz x) l)) : lSzExprS (n + 1) a l = some (szR (szL Ex.sz a) l) := by
  show (bif (decide ((w64 (l - (a.length : Int))) < 0)) then some (-1) else lSzExprS.l5 n (lSzExpr n) (lSzExprS n) n a (w64 (l - (a.length : Int))) 0) = _
  refine szR_len Ex.sz a ha h0 h1 fun hle => ?_
  rw [w64_id (by omega) (by omega)]
  exact sz_loop Ex.sz (fun x l => lSzExpr n x.eta l) (fun m k l => lSzExprS.l5 n (lSzExpr n) (lSzExprS n) m a l k) a ha (fun x hx l q1 q2 => by simp only [Ex.eta_eq]; exact hel x hx l q1 q2) (fun m k l hk => rfl) n _ (by omega) (by omega) hn
theorem lSzExpr_ok : ∀ (n : Nat) (t : Ex), t.ok → t.m ≤ n → ∀ l : Int, 0 ≤ l → l ≤ 1048576 → lSzExpr n t l = some (szR t.sz l) := by
  intro n
  induction n using Nat.strongRecOn with
  | ind n ih =>
    rintro ⟨k, nm, q, ⟨tk, ta⟩, a⟩ ⟨o1, o2, o3, o4⟩ hm l h0 h1
    simp only [Ex.m] at hm
    have hl := Ex.mL_len a
    obtain ⟨n, rfl⟩ : ∃ q, n = q + 2 := ⟨n - 2, by omega⟩
    show (bif (decide ((w64 (l - (nm.size : Int))) < 0)) then some (-1)
      else (lSzType (n + 1) (.mk tk ta) (w64 (l - (nm.size : Int)))).bind fun x1 => bif (decide (x1 < 0)) then some (-1)
      else (lSzExprS (n + 1) a x1).bind fun x2 => bif (decide (x2 < 0)) then some (-1) else some x2) = _
    simp only [Ex.sz, Nat.add_assoc]
    refine sz_str o1 h0 h1 fun hs => ?_
    rw [w64_id (by omega) (by omega), lSzType_ok (n + 1) _ o2 (by omega) _ (by omega) (by omega), Option.bind_some]
    refine szR_step (by omega) fun hs2 => ?_
    rw [show szR (Ty.mk tk ta).sz (l - nm.size) = l - nm.size - (Ty.mk tk ta).sz by rw [szR, if_pos hs2], lSzExprS_ok a _ (by omega) (by omega) o3 (by omega) fun x hx => ih n (by omega) x (Ex.oks_iff.1 o4 x hx) (by have := Ex.mL_mem hx; omega), Option.bind_some, szR_fix, Ex.szs_eq]
theorem lSzCoreS_ok {n : Nat} (a : List Co) (l : Int) (h0 : 0 ≤ l) (h1 : l ≤ 1048576) (ha : a.length ≤ 9223372036854775807) (hn : a.length < n)
    (hel : ∀ x ∈ a, ∀ l : Int, 0 ≤ l → l ≤ 1048576 → lSzCore n x l = some (szR (Co.sz x) l)) : lSzCoreS (n + 1) a l = some (szR (szL Co.sz a) l) := by
  show (bif (decide ((w64 (l - (a.length : Int))) < 0)) then some (-1) else lSzCoreS.l5 n (lSzCore n) (lSzCoreS n) (lSzCoreBindS n) (lSzCoreBind n) n a (w64 (l - (a.length : Int))) 0) = _
  refine szR_len Co.sz a ha h0 h1 fun hle => ?_
  rw [w64_id (by omega) (by omega)]
  exact sz_loop Co.sz (fun x l => lSzCore n x.eta l) (fun m k l => lSzCoreS.l5 n (lSzCore n) (lSzCoreS n) (lSzCoreBindS n) (lSzCoreBind n) m a l k) a ha (fun x hx l q1 q2 => by simp only [Co.eta_eq]; exact hel x hx l q1 q2) (fun m k l hk => rfl) n _ (by omega) (by omega) hn
theorem lSzCoreBindS_ok {n : Nat} (a : List Bi) (l : Int) (h0 : 0 ≤ l) (h1 : l ≤ 1048576) (ha : a.length ≤ 9223372036854775807) (hn : a.length < n)
    (hel : ∀ x ∈ a, ∀ l : Int, 0 ≤ l → l ≤ 1048576 → lSzCoreBind n x l = some (szR (Bi.sz x) l)) : lSzCoreBindS (n + 1) a l = some (szR (szL Bi.sz a) l) := by
  show (bif (decide ((w64 (l - (a.length : Int))) < 0)) then some (-1) else lSzCoreBindS.l5 n (lSzCore n) (lSzCoreS n) (lSzCoreBindS n) (lSzCoreBind n) n a (w64 (l - (a.length : Int))) 0) = _
  refine szR_len Bi.sz a ha h0 h1 fun hle => ?_
  rw [w64_id (by omega) (by omega)]
  exact sz_loop Bi.sz (fun x l => lSzCoreBind n (Bi.eta x) l) (fun m k l => lSzCoreBindS.l5 n (lSzCore n) (lSzCoreS n) (lSzCoreBindS n) (lSzCoreBind n) m a l k) a ha (fun x hx l q1 q2 => by simp only [Bi.eta_eq]; exact hel x hx l q1 q2) (fun m k l hk => rfl) n _ (by omega) (by omega) hn
theorem lSzCore_ok : ∀ (n : Nat) (t : Co), t.ok → t.m ≤ n → ∀ l : Int, 0 ≤ l → l ≤ 1048576 → lSzCore n t l = some (szR t.sz l) := by
  intro n
  induction n using Nat.strongRecOn with
  | ind n ih =>
    rintro ⟨k, nm, q, ⟨tk, ta⟩, ⟨uk, ua⟩, a, e⟩ ⟨o1, o2, o3, o4, o5, o6, o7⟩ hm l h0 h1
    simp only [Co.m] at hm
    have hl := Co.mL_len a
    have hl2 := Co.mE_len e
    obtain ⟨n, rfl⟩ : ∃ q, n = q + 3 := ⟨n - 3, by omega⟩
    show (bif (decide ((w64 (l - (nm.size : Int))) < 0)) then some (-1)
      else (lSzType (n + 2) (.mk tk ta) (w64 (l - (nm.size : Int)))).bind fun x1 => bif (decide (x1 < 0)) then some (-1)
      else (lSzType (n + 2) (.mk uk ua) x1).bind fun x1 => bif (decide (x1 < 0)) then some (-1)
      else (lSzCoreS (n + 2) a x1).bind fun x1 => bif (decide (x1 < 0)) then some (-1)
      else (lSzCoreBindS (n + 2) e x1).bind fun x2 => bif (decide (x2 < 0)) then some (-1) else some x2) = _
    simp only [Co.sz, Nat.add_assoc]
    refine sz_str o1 h0 h1 fun hs => ?_
    rw [w64_id (by omega) (by omega), lSzType_ok (n + 2) _ o2 (by omega) _ (by omega) (by omega), Option.bind_some]
    refine szR_step (by omega) fun hs2 => ?_
    rw [show szR (Ty.mk tk ta).sz (l - nm.size) = l - nm.size - (Ty.mk tk ta).sz by rw [szR, if_pos hs2], lSzType_ok (n + 2) _ o3 (by omega) _ (by omega) (by omega), Option.bind_some]
    refine szR_step (by omega) fun hs3 => ?_
    rw [show szR (Ty.mk uk ua).sz (l - nm.size - (Ty.mk tk ta).sz) = l - nm.size - (Ty.mk tk ta).sz - (Ty.mk uk ua).sz by rw [szR, if_pos hs3], lSzCoreS_ok (n := n + 1) a _ (by omega) (by omega) o4 (by omega) fun x hx => ih (n + 1) (by omega) x (Co.oks_iff.1 o5 x hx) (by have := Co.mL_mem hx; omega), Option.bind_some, ← Co.szs_eq]
    refine szR_step (by omega) fun hs4 => ?_
    rw [show szR (Co.szs a) (l - nm.size - (Ty.mk tk ta).sz - (Ty.mk uk ua).sz) = l - nm.size - (Ty.mk tk ta).sz - (Ty.mk uk ua).sz - Co.szs a by rw [szR, if_pos hs4], lSzCoreBindS_ok (n := n + 1) e _ (by omega) (by omega) o6 (by omega) ?_, Option.bind_some, szR_fix, Co.szE_eq]
    rintro ⟨nm', c⟩ hx l' g0 g1
    have ho := Co.okE_iff.1 o7 _ hx
    have hmm := Co.mE_mem hx
    have he : lSzCoreBind (n + 1) (nm', c) l' = (bif (decide ((w64 (l' - (nm'.size : Int))) < 0)) then some (-1) else (lSzCore n c.eta (w64 (l' - (nm'.size : Int)))).bind fun x1 => bif (decide (x1 < 0)) then some (-1) else some x1) := rfl
    rw [he, Co.eta_eq]
    show _ = some (szR (nm'.size + Co.sz c) l')
    have ho1 : nm'.size ≤ 9223372036854775807 := ho.1
    refine sz_str ho1 g0 g1 fun hs5 => ?_
    have hs5 : (nm'.size : Int) ≤ l' := hs5
    rw [w64_id (by omega) (by omega), ih n (by omega) c ho.2 (by simp only [Bi.m] at hmm; omega) _ (by omega) (by omega), Option.bind_some, szR_fix]
theorem lToTypeS_ok {n : Nat} (a : List Ty) (ha : a.length ≤ 1048576) (hn : a.length < n) (hel : ∀ x ∈ a, lToType n x = some x) : lToTypeS (n + 1) a = some a := by
  show (bif makeT (a.length : Int) 32 then lToTypeS.l3 n (lToType n) (lToTypeS n) n a (a.length : Int) 0 (List.replicate (a.length : Int).toNat (UU.dflt 3)) else none) = _
  rw [makeT_ok ha (by omega), cond_true]
  exact to_loop (fun x => (lToType n x.eta).bind fun y => some y.eta) (fun m k b => lToTypeS.l3 n (lToType n) (lToTypeS n) m a (a.length : Int) k b) a (by omega) (fun x hx => by simp only [Ty.eta_eq, hel x hx, Option.bind_some]) (fun m k b hk => by
    show (bif _ then _ else _) = _
    simp only [Ty.eta_eq, Option.bind_assoc, Option.bind_some]) n _ (List.length_replicate.trans (by simp)) hn
theorem lToType_ok : ∀ (n : Nat) (t : Ty), t.sz ≤ 1048576 → t.m ≤ n → lToType n t = some t := by
  intro n
  induction n using Nat.strongRecOn with
  | ind n ih =>
    rintro ⟨k, a⟩ hs hm
    simp only [Ty.m] at hm
    simp only [Ty.sz, Ty.szs_eq] at hs
    have hl := Ty.mL_len a
    have hl2 := szL_len Ty.sz a
    obtain ⟨n, rfl⟩ : ∃ q, n = q + 2 := ⟨n - 2, by omega⟩
    show (lToTypeS (n + 1) a).bind (fun x1 => some (Ty.mk k x1)) = _
    rw [lToTypeS_ok a (by omega) (by omega) fun x hx => ih n (by omega) x (by have := szL_mem (sz := Ty.sz) hx; omega) (by have := Ty.mL_mem hx; omega)]
    rfl
theorem lToExprS_ok {n : Nat} (a : List Ex) (ha : a.length ≤ 1048576) (hn : a.length < n) (hel : ∀ x ∈ a, lToExpr n x = some x) : lToExprS (n + 1) a = some a := by
  show (bif makeT (a.length : Int) 88 then lToExprS.l3 n (lToExpr n) (lToExprS n) n a (a.length : Int) 0 (List.replicate (a.length : Int).toNat (UU.dflt 4)) else none) = _
  rw [makeT_ok ha (by omega), cond_true]
  exact to_loop (fun x => (lToExpr n x.eta).bind fun y => some y.eta) (fun m k b => lToExprS.l3 n (lToExpr n) (lToExprS n) m a (a.length : Int) k b) a (by omega) (fun x hx => by simp only [Ex.eta_eq, hel x hx, Option.bind_some]) (fun m k b hk => by
    show (bif _ then _ else _) = _
    simp only [Ex.eta_eq, Option.bind_assoc, Option.bind_some]) n _ (List.length_replicate.trans (by simp)) hn
theorem lToExpr_ok : ∀ (n : Nat) (t : Ex), t.sz ≤ 1048576 → t.m ≤ n → lToExpr n t = some t := by
  intro n
  induction n using Nat.strongRecOn with
  | ind n ih =>
    rintro ⟨k, nm, q, ⟨tk, ta⟩, a⟩ hs hm
    simp only [Ex.m] at hm
    simp only [Ex.sz, Ex.szs_eq] at hs
    have hl := Ex.mL_len a
    have hl2 := szL_len Ex.sz a
    obtain ⟨n, rfl⟩ : ∃ q, n = q + 2 := ⟨n - 2, by omega⟩
    show (lToType (n + 1) (.mk tk ta)).bind (fun x1 => (lToExprS (n + 1) a).bind fun x2 => some (Ex.mk k nm q x1.eta x2)) = _
    rw [lToType_ok (n + 1) _ (by omega) (by omega), lToExprS_ok a (by omega) (by omega) fun x hx => ih n (by omega) x (by have := szL_mem (sz := Ex.sz) hx; omega) (by have := Ex.mL_mem hx; omega)]
    rfl
theorem lToCoreS_ok {n : Nat} (a : List Co) (ha : a.length ≤ 1048576) (hn : a.length < n) (hel : ∀ x ∈ a, lToCore n x = some x) : lToCoreS (n + 1) a = some a := by
  show (bif makeT (a.length : Int) 144 then lToCoreS.l3 n (lToCore n) (lToCoreS n) (lToCoreBindS n) (lToCoreBind n) n a (a.length : Int) 0 (List.replicate (a.length : Int).toNat (UU.dflt 5)) else none) = _
  rw [makeT_ok ha (by omega), cond_true]
  exact to_loop (fun x => (lToCore n x.eta).bind fun y => some y.eta) (fun m k b => lToCoreS.l3 n (lToCore n) (lToCoreS n) (lToCoreBindS n) (lToCoreBind n) m a (a.length : Int) k b) a (by omega) (fun x hx => by simp only [Co.eta_eq, hel x hx, Option.bind_some]) (fun m k b hk => by
    show (bif _ then _ else _) = _
    simp only [Co.eta_eq, Option.bind_assoc, Option.bind_some]) n _ (List.length_replicate.trans (by simp)) hn
theorem lToCoreBindS_ok {n : Nat} (a : List Bi) (ha : a.length ≤ 1048576) (hn : a.length < n) (hel : ∀ x ∈ a, lToCoreBind n x = some x) : lToCoreBindS (n + 1) a = some a := by
  show (bif makeT (a.length : Int) 160 then lToCoreBindS.l3 n (lToCore n) (lToCoreS n) (lToCoreBindS n) (lToCoreBind n) n a (a.length : Int) 0 (List.replicate (a.length : Int).toNat (UU.dflt 6)) else none) = _
  rw [makeT_ok ha (by omega), cond_true]
  exact to_loop (fun x => (lToCoreBind n (Bi.eta x)).bind fun y => some (Bi.eta y)) (fun m k b => lToCoreBindS.l3 n (lToCore n) (lToCoreS n) (lToCoreBindS n) (lToCoreBind n) m a (a.length : Int) k b) a (by omega) (fun x hx => by simp only [Bi.eta_eq, hel x hx, Option.bind_some]) (fun m k b hk => by
    show (bif _ then _ else _) = _
    simp only [Bi.eta_eq, Option.bind_assoc, Option.bind_some]) n _ (List.length_replicate.trans (by simp)) hn
theorem lToCore_ok : ∀ (n : Nat) (t : Co), t.sz ≤ 1048576 → t.m ≤ n → lToCore n t = some t := by
  intro n
  induction n using Nat.strongRecOn with
  | ind n ih =>
    rintro ⟨k, nm, q, ⟨tk, ta⟩, ⟨uk, ua⟩, a, e⟩ hs hm
    simp only [Co.m] at hm
    simp only [Co.sz, Co.szs_eq, Co.szE_eq] at hs
    have hl := Co.mL_len a
    have hl2 := szL_len Co.sz a
    have hl3 := Co.mE_len e
    have hl4 := szL_len Bi.sz e
    obtain ⟨n, rfl⟩ : ∃ q, n = q + 3 := ⟨n - 3, by omega⟩
    show (lToType (n + 2) (.mk tk ta)).bind (fun x1 => (lToType (n + 2) (.mk uk ua)).bind fun x2 => (lToCoreS (n + 2) a).bind fun x3 => (lToCoreBindS (n + 2) e).bind fun x4 => some (Co.mk k nm q x1.eta x2.eta x3 x4)) = _
    rw [lToType_ok (n + 2) _ (by omega) (by omega), Option.bind_some, lToType_ok (n + 2) _ (by omega) (by omega), Option.bind_some,
      lToCoreS_ok (n := n + 1) a (by omega) (by omega) fun x hx => ih (n + 1) (by omega) x (by have := szL_mem (sz := Co.sz) hx; omega) (by have := Co.mL_mem hx; omega), Option.bind_some,
      lToCoreBindS_ok (n := n + 1) e (by omega) (by omega) ?_]
    · rfl
    · rintro ⟨nm', c⟩ hx
      have h1 := szL_mem (sz := Bi.sz) hx
      have h2 := Co.mE_mem hx
      simp only [Bi.sz] at h1
      simp only [Bi.m] at h2
      have he : lToCoreBind (n + 1) (nm', c) = (lToCore n c.eta).bind fun x1 => some (nm', x1.eta) := rfl
      rw [he, Co.eta_eq, ih n (by omega) c (by omega) (by omega), Option.bind_some, Co.eta_eq]
theorem lEqTypeS_ok {n : Nat} (a b : List Ty) (ha : a.length ≤ 9223372036854775807) (hn : a.length < n) (hel : ∀ x ∈ a, ∀ y, lEqType n x y = some (Ty.beq x y)) : lEqTypeS (n + 1) a b = some (beqL Ty.beq a b) := by
  show (bif ((a.length : Int) != (b.length : Int)) then some false else lEqTypeS.l4 n (lEqType n) (lEqTypeS n) n a b 0) = _
  refine eq_list Ty.beq fun hl => ?_
  exact eq_loop Ty.beq (fun x y => lEqType n x.eta y.eta) (fun m k => lEqTypeS.l4 n (lEqType n) (lEqTypeS n) m a b k) a b ha hl (fun x hx y => by simp only [Ty.eta_eq]; exact hel x hx y) (fun m k hk => rfl) n hn
theorem bne_int (a b : Int) : (a != b) = !(a == b) := rfl
theorem lEqType_ok : ∀ (n : Nat) (t u : Ty), t.ok → t.m ≤ n → lEqType n t u = some (Ty.beq t u) := by
  intro n
  induction n using Nat.strongRecOn with
  | ind n ih =>
    rintro ⟨k, a⟩ ⟨k', b⟩ ⟨o1, o2⟩ hm
    simp only [Ty.m] at hm
    have hl := Ty.mL_len a
    obtain ⟨n, rfl⟩ : ∃ q, n = q + 2 := ⟨n - 2, by omega⟩
    show (bif (k != k') then some false else (lEqTypeS (n + 1) a b).bind fun x1 => bif (!x1) then some false else some true) = _
    rw [lEqTypeS_ok a b o1 (by omega) fun x hx y => ih n (by omega) x y (Ty.oks_iff.1 o2 x hx) (by have := Ty.mL_mem hx; omega)]
    simp only [Ty.beq, Ty.beqs_eq, bne_int]
    cases (k == k') <;> cases beqL Ty.beq a b <;> rfl
theorem lEqExprS_ok {n : Nat} (a b : List Ex) (ha : a.length ≤ 9223372036854775807) (hn : a.length < n) (hel : ∀ x ∈ a, ∀ y, lEqExpr n x y = some (Ex.beq x y)) : lEqExprS (n + 1) a b = some (beqL Ex.beq a b) := by
  show (bif ((a.length : Int) != (b.length : Int)) then some false else lEqExprS.l4 n (lEqExpr n) (lEqExprS n) n a b 0) = _
  refine eq_list Ex.beq fun hl => ?_
  exact eq_loop Ex.beq (fun x y => lEqExpr n x.eta y.eta) (fun m k => lEqExprS.l4 n (lEqExpr n) (lEqExprS n) m a b k) a b ha hl (fun x hx y => by simp only [Ex.eta_eq]; exact hel x hx y) (fun m k hk => rfl) n hn
theorem lEqExpr_ok : ∀ (n : Nat) (t u : Ex), t.ok → t.m ≤ n → lEqExpr n t u = some (Ex.beq t u) := by
  intro n
  induction n using Nat.strongRecOn with
  | ind n ih =>
    rintro ⟨k, nm, q, ⟨tk, ta⟩, a⟩ ⟨k', nm', q', ⟨tk', ta'⟩, b⟩ ⟨o1, o2, o3, o4⟩ hm
    simp only [Ex.m] at hm
    have hl := Ex.mL_len a
    obtain ⟨n, rfl⟩ : ∃ q, n = q + 2 := ⟨n - 2, by omega⟩
    show (bif (k != k') then some false else bif (!(seqT nm nm')) then some false else bif (q != q') then some false
      else (lEqType (n + 1) (.mk tk ta) (.mk tk' ta')).bind fun x1 => bif (!x1) then some false
      else (lEqExprS (n + 1) a b).bind fun x1 => bif (!x1) then some false else some true) = _
    rw [lEqType_ok (n + 1) _ _ o2 (by omega), lEqExprS_ok a b o3 (by omega) fun x hx y => ih n (by omega) x y (Ex.oks_iff.1 o4 x hx) (by have := Ex.mL_mem hx; omega)]
    simp only [Ex.beq, Ex.beqs_eq, bne_int]
    cases (k == k') <;> cases (seqT nm nm') <;> cases (q == q') <;> cases (Ty.beq (.mk tk ta) (.mk tk' ta')) <;> cases beqL Ex.beq a b <;> rfl
theorem lEqCoreS_ok {n : Nat} (a b : List Co) (ha : a.length ≤ 9223372036854775807) (hn : a.length < n) (hel : ∀ x ∈ a, ∀ y, lEqCore n x y = some (Co.beq x y)) : lEqCoreS (n + 1) a b = some (beqL Co.beq a b) := by
  show (bif ((a.length : Int) != (b.length : Int)) then some false else lEqCoreS.l4 n (lEqCore n) (lEqCoreS n) (lEqCoreBindS n) (lEqCoreBind n) n a b 0) = _
  refine eq_list Co.beq fun hl => ?_
  exact eq_loop Co.beq (fun x y => lEqCore n x.eta y.eta) (fun m k => lEqCoreS.l4 n (lEqCore n) (lEqCoreS n) (lEqCoreBindS n) (lEqCoreBind n) m a b k) a b ha hl (fun x hx y => by simp only [Co.eta_eq]; exact hel x hx y) (fun m k hk => rfl) n hn
theorem lEqCoreBindS_ok {n : Nat} (a b : List Bi) (ha : a.length ≤ 9223372036854775807) (hn : a.length < n) (hel : ∀ x ∈ a, ∀ y, lEqCoreBind n x y = some (Bi.beq x y)) : lEqCoreBindS (n + 1) a b = some (beqL Bi.beq a b) := by
  show (bif ((a.length : Int) != (b.length : Int)) then some false else lEqCoreBindS.l4 n (lEqCore n) (lEqCoreS n) (lEqCoreBindS n) (lEqCoreBind n) n a b 0) = _
  refine eq_list Bi.beq fun hl => ?_
  exact eq_loop Bi.beq (fun x y => lEqCoreBind n (Bi.eta x) (Bi.eta y)) (fun m k => lEqCoreBindS.l4 n (lEqCore n) (lEqCoreS n) (lEqCoreBindS n) (lEqCoreBind n) m a b k) a b ha hl (fun x hx y => by simp only [Bi.eta_eq]; exact hel x hx y) (fun m k hk => rfl) n hn
theorem lEqCore_ok : ∀ (n : Nat) (t u : Co), t.ok → t.m ≤ n → lEqCore n t u = some (Co.beq t u) := by
  intro n
  induction n using Nat.strongRecOn with
  | ind n ih =>
    rintro ⟨k, nm, q, ⟨tk, ta⟩, ⟨uk, ua⟩, a, e⟩ ⟨k', nm', q', ⟨tk', ta'⟩, ⟨uk', ua'⟩, b, g⟩ ⟨o1, o2, o3, o4, o5, o6, o7⟩ hm
    simp only [Co.m] at hm
    have hl := Co.mL_len a
    have hl2 := Co.mE_len e
    obtain ⟨n, rfl⟩ : ∃ q, n = q + 3 := ⟨n - 3, by omega⟩
    show (bif (k != k') then some false else bif (!(seqT nm nm')) then some false else bif (q != q') then some false
      else (lEqType (n + 2) (.mk tk ta) (.mk tk' ta')).bind fun x1 => bif (!x1) then some false
      else (lEqType (n + 2) (.mk uk ua) (.mk uk' ua')).bind fun x1 => bif (!x1) then some false
      else (lEqCoreS (n + 2) a b).bind fun x1 => bif (!x1) then some false
      else (lEqCoreBindS (n + 2) e g).bind fun x1 => bif (!x1) then some false else some true) = _
    rw [lEqType_ok (n + 2) _ _ o2 (by omega), lEqType_ok (n + 2) _ _ o3 (by omega), lEqCoreS_ok (n := n + 1) a b o4 (by omega) fun x hx y => ih (n + 1) (by omega) x y (Co.oks_iff.1 o5 x hx) (by have := Co.mL_mem hx; omega),
      lEqCoreBindS_ok (n := n + 1) e g o6 (by omega) ?_]
    · simp only [Co.beq, Co.beqs_eq, Co.beqE_eq, bne_int]
      cases (k == k') <;> cases (seqT nm nm') <;> cases (q == q') <;> cases (Ty.beq (.mk tk ta) (.mk tk' ta')) <;> cases (Ty.beq (.mk uk ua) (.mk uk' ua')) <;> cases beqL Co.beq a b <;> cases beqL Bi.beq e g <;> rfl
    · rintro ⟨nm', c⟩ hx ⟨nm2, c2⟩
      have h1 := Co.okE_iff.1 o7 _ hx
      have h2 := Co.mE_mem hx
      simp only [Bi.m] at h2
      have he : lEqCoreBind (n + 1) (nm', c) (nm2, c2) = (bif (!(seqT nm' nm2)) then some false else (lEqCore n c.eta c2.eta).bind fun x1 => bif (!x1) then some false else some true) := rfl
      rw [he, Co.eta_eq, Co.eta_eq, ih n (by omega) c c2 h1.2 (by omega)]
      simp only [Bi.beq]
      cases seqT nm' nm2 <;> cases Co.beq c c2 <;> rfl

end Go.Proofs.Ytbbncbojkkackaa
namespace Go.Pu
open Go.Tx
theorem dec_lt {k n : Nat} (h : k < n) : decide ((k : Int) < (n : Int)) = true := by simp; omega
theorem dec_nlt (n : Nat) : decide ((n : Int) < (n : Int)) = false := by simp
/-- The loop of an equality of lists, with what comes behind it. -/
theorem eq_loopG {α : Type} (eq : α → α → Bool) (L : Nat → Int → Option Bool) (fin : Nat → Option Bool) (a b : List α) (ha : a.length ≤ 9223372036854775807) (hab : a.length = b.length)
    (hs : ∀ m (k : Nat) x y, k < a.length → x ∈ a → nthT a k = some x → nthT b k = some y → L (m + 1) k = bif eq x y then L m (w64 ((k : Int) + 1)) else some false)
    (he : ∀ m, L (m + 1) (a.length : Int) = fin m) :
    ∀ m, a.length < m → L m 0 = bif beqL eq a b then fin (m - a.length - 1) else some false := by
  have main : ∀ (d k m : Nat), k + d = a.length → d < m → L m k = bif beqL eq (a.drop k) (b.drop k) then fin (m - d - 1) else some false := by
    intro d
    induction d with
    | zero =>
      intro k m hk hm
      obtain ⟨m, rfl⟩ : ∃ q, m = q + 1 := ⟨m - 1, by omega⟩
      rw [show k = a.length by omega, he, List.drop_eq_nil_of_le (by omega), List.drop_eq_nil_of_le (by omega)]
      rfl
    | succ d ih =>
      intro k m hk hm
      obtain ⟨m, rfl⟩ : ∃ q, m = q + 1 := ⟨m - 1, by omega⟩
      have hlt : k < a.length := by omega
      have hlt2 : k < b.length := by omega
      have e : w64 ((k : Int) + 1) = ((k + 1 : Nat) : Int) := by rw [w64_id (by omega) (by omega)]; rfl
      rw [hs m k a[k] b[k] hlt (List.getElem_mem hlt) (by rw [nthT_nat, List.getElem?_eq_getElem hlt]) (by rw [nthT_nat, List.getElem?_eq_getElem hlt2]), e, ih (k + 1) m (by omega) (by omega), List.drop_eq_getElem_cons hlt, List.drop_eq_getElem_cons hlt2,
        show m + 1 - (d + 1) - 1 = m - d - 1 by omega]
      simp only [beqL]
      cases eq a[k] b[k] <;> rfl
  intro m hm
  have := main a.length 0 m (by omega) hm
  simpa using this
theorem eq_list2 {α : Type} (eq : α → α → Bool) {a b : List α} {c : Bool} {x : Option Bool} (h : c = false → a.length = b.length → x = some (beqL eq a b)) :
    (bif (c || ((a.length : Int) != (b.length : Int))) then some false else x) = some (!c && beqL eq a b) := by
  cases c
  · exact eq_list eq (h rfl)
  · rfl
theorem len_beq {α β : Type} (a : List α) (b : List β) : ((a.length : Int) == (b.length : Int)) = (a.length == b.length) := by
  rw [Bool.eq_iff_iff, beq_iff_eq, beq_iff_eq]
  omega
theorem beqL_lenF {α : Type} {eq : α → α → Bool} {a b : List α} (h : (a.length == b.length) = false) : beqL eq a b = false := by
  cases hb : beqL eq a b
  · rfl
  · have := beqL_len hb
    simp [this] at h
end Go.Pu
namespace Go.Proofs.Ytbbncbojkkackaa
open Go.Tx Go.Pu
theorem sEqualType_ok : ∀ (n : Nat) (t u : Ty), t.ok → t.m ≤ n → sEqualType n t u = some (Ty.beq t u) := by
  intro n
  induction n using Nat.strongRecOn with
  | ind n ih =>
    rintro ⟨k, a⟩ ⟨k', b⟩ ⟨o1, o2⟩ hm
    simp only [Ty.m] at hm
    have hl := Ty.mL_len a
    obtain ⟨n, rfl⟩ : ∃ q, n = q + 1 := ⟨n - 1, by omega⟩
    show (bif ((k != k') || ((a.length : Int) != (b.length : Int))) then some false else sEqualType.l4 n (sEqualType n) n 0 (.mk k a) (.mk k' b)) = _
    rw [eq_list2 Ty.beq fun _ hl2 => ?_]
    · simp only [Ty.beq, Ty.beqs_eq, bne_int, Bool.not_not]
    · rw [eq_loopG Ty.beq (fun m i => sEqualType.l4 n (sEqualType n) m i (.mk k a) (.mk k' b)) (fun _ => some true) a b o1 hl2 (fun m i x y hi hx h1 h2 => ?_) (fun m => ?_) n (by omega)]
      · cases beqL Ty.beq a b <;> rfl
      · show (bif decide ((i : Int) < (a.length : Int)) then (nthT a i).bind fun x1 => (nthT b i).bind fun x2 => (sEqualType n x1.eta x2.eta).bind fun x3 => bif (!x3) then some false else sEqualType.l4 n (sEqualType n) m (w64 ((i : Int) + 1)) (.mk k a) (.mk k' b) else some true) = _
        rw [dec_lt hi, cond_true, h1, h2, Option.bind_some, Option.bind_some, Ty.eta_eq, Ty.eta_eq, ih n (by omega) x y (Ty.oks_iff.1 o2 x hx) (by have := Ty.mL_mem hx; omega), Option.bind_some]
        cases Ty.beq x y <;> rfl
      · show (bif decide ((a.length : Int) < (a.length : Int)) then _ else some true) = _
        rw [dec_nlt]; rfl
theorem sEqualExpr_ok : ∀ (n : Nat) (t u : Ex), t.ok → t.m ≤ n → sEqualExpr n t u = some (Ex.beq t u) := by
  intro n
  induction n using Nat.strongRecOn with
  | ind n ih =>
    rintro ⟨k, nm, q, ⟨tk, ta⟩, a⟩ ⟨k', nm', q', ⟨tk', ta'⟩, b⟩ ⟨o1, o2, o3, o4⟩ hm
    simp only [Ex.m] at hm
    have hl := Ex.mL_len a
    obtain ⟨n, rfl⟩ : ∃ q, n = q + 1 := ⟨n - 1, by omega⟩
    show ((gd (!(((k != k') || (!(seqT nm nm'))) || (q != q'))) (sEqualType n (.mk tk ta) (.mk tk' ta')) false).bind fun x1 =>
      bif (((((k != k') || (!(seqT nm nm'))) || (q != q')) || (!x1)) || ((a.length : Int) != (b.length : Int))) then some false else sEqualExpr.l4 n (sEqualExpr n) n 0 (.mk k nm q (.mk tk ta) a) (.mk k' nm' q' (.mk tk' ta') b)) = _
    rw [sEqualType_ok n _ _ o2 (by omega)]
    have loop : a.length = b.length → sEqualExpr.l4 n (sEqualExpr n) n 0 (.mk k nm q (.mk tk ta) a) (.mk k' nm' q' (.mk tk' ta') b) = some (beqL Ex.beq a b) := fun hl2 => by
      rw [eq_loopG Ex.beq (fun m i => sEqualExpr.l4 n (sEqualExpr n) m i (.mk k nm q (.mk tk ta) a) (.mk k' nm' q' (.mk tk' ta') b)) (fun _ => some true) a b o3 hl2 (fun m i x y hi hx h1 h2 => ?_) (fun m => ?_) n (by omega)]
      · cases beqL Ex.beq a b <;> rfl
      · show (bif decide ((i : Int) < (a.length : Int)) then (nthT a i).bind fun x1 => (nthT b i).bind fun x2 => (sEqualExpr n x1.eta x2.eta).bind fun x3 => bif (!x3) then some false else sEqualExpr.l4 n (sEqualExpr n) m (w64 ((i : Int) + 1)) (.mk k nm q (.mk tk ta) a) (.mk k' nm' q' (.mk tk' ta') b) else some true) = _
        rw [dec_lt hi, cond_true, h1, h2, Option.bind_some, Option.bind_some, Ex.eta_eq, Ex.eta_eq, ih n (by omega) x y (Ex.oks_iff.1 o4 x hx) (by have := Ex.mL_mem hx; omega), Option.bind_some]
        cases Ex.beq x y <;> rfl
      · show (bif decide ((a.length : Int) < (a.length : Int)) then _ else some true) = _
        rw [dec_nlt]; rfl
    simp only [Ex.beq, Ex.beqs_eq, bne_int, len_beq]
    generalize sEqualExpr.l4 n (sEqualExpr n) n 0 (.mk k nm q (.mk tk ta) a) (.mk k' nm' q' (.mk tk' ta') b) = L at loop ⊢
    cases hlen : (a.length == b.length)
    · rw [beqL_lenF hlen]
      cases (k == k') <;> cases (seqT nm nm') <;> cases (q == q') <;> cases (Ty.beq (.mk tk ta) (.mk tk' ta')) <;> rfl
    · rw [loop (by simpa using hlen)]
      cases (k == k') <;> cases (seqT nm nm') <;> cases (q == q') <;> cases (Ty.beq (.mk tk ta) (.mk tk' ta')) <;> rfl
theorem sEqualCore_ok : ∀ (n : Nat) (t u : Co), t.ok → t.m ≤ n → sEqualCore n t u = some (Co.beq t u) := by
  intro n
  induction n using Nat.strongRecOn with
  | ind n ih =>
    rintro ⟨k, nm, q, ⟨tk, ta⟩, ⟨uk, ua⟩, a, e⟩ ⟨k', nm', q', ⟨tk', ta'⟩, ⟨uk', ua'⟩, b, g⟩ ⟨o1, o2, o3, o4, o5, o6, o7⟩ hm
    simp only [Co.m] at hm
    have hl := Co.mL_len a
    have hl2 := Co.mE_len e
    obtain ⟨n, rfl⟩ : ∃ q, n = q + 1 := ⟨n - 1, by omega⟩
    let A : Co := .mk k nm q (.mk tk ta) (.mk uk ua) a e
    let B : Co := .mk k' nm' q' (.mk tk' ta') (.mk uk' ua') b g
    show ((gd (!(((k != k') || (!(seqT nm nm'))) || (q != q'))) (sEqualType n (.mk tk ta) (.mk tk' ta')) false).bind fun x1 =>
      (gd (!((((k != k') || (!(seqT nm nm'))) || (q != q')) || (!x1))) (sEqualType n (.mk uk ua) (.mk uk' ua')) false).bind fun x2 =>
      bif (((((((k != k') || (!(seqT nm nm'))) || (q != q')) || (!x1)) || (!x2)) || ((a.length : Int) != (b.length : Int))) || ((e.length : Int) != (g.length : Int))) then some false else sEqualCore.l4 n (sEqualCore n) n 0 A B) = _
    rw [sEqualType_ok n _ _ o2 (by omega), sEqualType_ok n _ _ o3 (by omega)]
    have loop9 : ∀ m, e.length < m → e.length = g.length → sEqualCore.l9 n (sEqualCore n) m 0 A B = some (beqL Bi.beq e g) := fun m hm hl2 => by
      rw [eq_loopG Bi.beq (fun m i => sEqualCore.l9 n (sEqualCore n) m i A B) (fun _ => some true) e g o6 hl2 (fun m i x y hi hx h1 h2 => ?_) (fun m => ?_) m hm]
      · cases beqL Bi.beq e g <;> rfl
      · show (bif decide ((i : Int) < (e.length : Int)) then (nthT e i).bind fun x1 => (nthT g i).bind fun x2 =>
          (gd (!(!(seqT x1.1 x2.1))) (nthT e i) (UU.dflt 6)).bind fun x3 => (gd (!(!(seqT x1.1 x2.1))) (nthT g i) (UU.dflt 6)).bind fun x4 =>
          (gd (!(!(seqT x1.1 x2.1))) (sEqualCore n x3.2.eta x4.2.eta) false).bind fun x5 =>
          bif ((!(seqT x1.1 x2.1)) || (!x5)) then some false else sEqualCore.l9 n (sEqualCore n) m (w64 ((i : Int) + 1)) A B else some true) = _
        have hr : sEqualCore n x.2 y.2 = some (Co.beq x.2 y.2) := ih n (by omega) x.2 y.2 (Co.okE_iff.1 o7 x hx).2 (by have := Co.mE_mem hx; simp only [Bi.m] at this; omega)
        rw [dec_lt hi, cond_true, h1, h2, Option.bind_some, Option.bind_some]
        simp only [Bi.beq]
        cases seqT x.1 y.1
        · rfl
        · show (sEqualCore n x.2.eta y.2.eta).bind _ = _
          rw [Co.eta_eq, Co.eta_eq, hr, Option.bind_some]
          cases Co.beq x.2 y.2 <;> rfl
      · show (bif decide ((e.length : Int) < (e.length : Int)) then _ else some true) = _
        rw [dec_nlt]; rfl
    have loop : a.length = b.length → e.length = g.length → sEqualCore.l4 n (sEqualCore n) n 0 A B = some (beqL Co.beq a b && beqL Bi.beq e g) := fun hl2 hl3 => by
      rw [eq_loopG Co.beq (fun m i => sEqualCore.l4 n (sEqualCore n) m i A B) (fun m => sEqualCore.l9 n (sEqualCore n) m 0 A B) a b o4 hl2 (fun m i x y hi hx h1 h2 => ?_) (fun m => ?_) n (by omega)]
      · rw [loop9 _ (by omega) hl3]
        cases beqL Co.beq a b <;> rfl
      · show (bif decide ((i : Int) < (a.length : Int)) then (nthT a i).bind fun x1 => (nthT b i).bind fun x2 => (sEqualCore n x1.eta x2.eta).bind fun x3 => bif (!x3) then some false else sEqualCore.l4 n (sEqualCore n) m (w64 ((i : Int) + 1)) A B else sEqualCore.l9 n (sEqualCore n) m 0 A B) = _
        rw [dec_lt hi, cond_true, h1, h2, Option.bind_some, Option.bind_some, Co.eta_eq, Co.eta_eq, ih n (by omega) x y (Co.oks_iff.1 o5 x hx) (by have := Co.mL_mem hx; omega), Option.bind_some]
        cases Co.beq x y <;> rfl
      · show (bif decide ((a.length : Int) < (a.length : Int)) then _ else sEqualCore.l9 n (sEqualCore n) m 0 A B) = _
        rw [dec_nlt]; rfl
    simp only [Co.beq, Co.beqs_eq, Co.beqE_eq, bne_int, len_beq]
    generalize sEqualCore.l4 n (sEqualCore n) n 0 A B = L at loop ⊢
    cases hlen : (a.length == b.length)
    · rw [beqL_lenF hlen]
      cases (k == k') <;> cases (seqT nm nm') <;> cases (q == q') <;> cases (Ty.beq (.mk tk ta) (.mk tk' ta')) <;> cases (Ty.beq (.mk uk ua) (.mk uk' ua')) <;> rfl
    · cases hlen2 : (e.length == g.length)
      · rw [beqL_lenF hlen2]
        cases (k == k') <;> cases (seqT nm nm') <;> cases (q == q') <;> cases (Ty.beq (.mk tk ta) (.mk tk' ta')) <;> cases (Ty.beq (.mk uk ua) (.mk uk' ua')) <;> cases beqL Co.beq a b <;> rfl
      · rw [loop (by simpa using hlen) (by simpa using hlen2)]
        cases (k == k') <;> cases (seqT nm nm') <;> cases (q == q') <;> cases (Ty.beq (.mk tk ta) (.mk tk' ta')) <;> cases (Ty.beq (.mk uk ua) (.mk uk' ua')) <;> cases beqL Co.beq a b <;> cases beqL Bi.beq e g <;> rfl
theorem sEqualBinds_ok (n : Nat) (e g : List Bi) (he : e.length ≤ 9223372036854775807) (ho : ∀ x ∈ e, Bi.ok x) (hm : Co.mE e < n) : sEqualBinds n e g = some (beqL Bi.beq e g) := by
  have hl2 := Co.mE_len e
  show (bif ((e.length : Int) != (g.length : Int)) then some false else sEqualBinds.l4 n n e g 0) = _
  refine eq_list Bi.beq fun hl => ?_
  rw [eq_loopG Bi.beq (fun m i => sEqualBinds.l4 n m e g i) (fun _ => some true) e g he hl (fun m i x y hi hx h1 h2 => ?_) (fun m => ?_) n (by omega)]
  · cases beqL Bi.beq e g <;> rfl
  · show (bif decide ((i : Int) < (e.length : Int)) then (nthT e i).bind fun x1 => (nthT g i).bind fun x2 =>
      (gd (!(!(seqT x1.1 x2.1))) (nthT e i) (UU.dflt 6)).bind fun x3 => (gd (!(!(seqT x1.1 x2.1))) (nthT g i) (UU.dflt 6)).bind fun x4 =>
      (gd (!(!(seqT x1.1 x2.1))) (sEqualCore n x3.2.eta x4.2.eta) false).bind fun x5 =>
      bif ((!(seqT x1.1 x2.1)) || (!x5)) then some false else sEqualBinds.l4 n m e g (w64 ((i : Int) + 1)) else some true) = _
    have hr : sEqualCore n x.2 y.2 = some (Co.beq x.2 y.2) := sEqualCore_ok n x.2 y.2 (ho x hx).2 (by have := Co.mE_mem hx; simp only [Bi.m] at this; omega)
    rw [dec_lt hi, cond_true, h1, h2, Option.bind_some, Option.bind_some]
    simp only [Bi.beq]
    cases seqT x.1 y.1
    · rfl
    · show (sEqualCore n x.2.eta y.2.eta).bind _ = _
      rw [Co.eta_eq, Co.eta_eq, hr, Option.bind_some]
      cases Co.beq x.2 y.2 <;> rfl
  · show (bif decide ((e.length : Int) < (e.length : Int)) then _ else some true) = _
    rw [dec_nlt]; rfl

theorem zEqualFunc_Type_EqualType_ok {n : Nat} (a b : List Ty) (ha : a.length ≤ 9223372036854775807) (hn : a.length < n) (hel : ∀ x ∈ a, ∀ y, iEqualType n x y = some (Ty.beq x y)) : zEqualFunc_Type_EqualType (n + 1) a b = some (beqL Ty.beq a b) := by
  show (bif ((a.length : Int) != (b.length : Int)) then some false else zEqualFunc_Type_EqualType.l4 n (iEqualType n) (zEqualFunc_Type_EqualType n) n b a (a.length : Int) 0) = _
  refine eq_list Ty.beq fun hl => ?_
  exact eq_loop Ty.beq (fun x y => iEqualType n x.eta y.eta) (fun m k => zEqualFunc_Type_EqualType.l4 n (iEqualType n) (zEqualFunc_Type_EqualType n) m b a (a.length : Int) k) a b ha hl (fun x hx y => by simp only [Ty.eta_eq]; exact hel x hx y) (fun m k hk => rfl) n hn
theorem iEqualType_ok : ∀ (n : Nat) (t u : Ty), t.ok → t.m ≤ n → iEqualType n t u = some (Ty.beq t u) := by
  intro n
  induction n using Nat.strongRecOn with
  | ind n ih =>
    rintro ⟨k, a⟩ ⟨k', b⟩ ⟨o1, o2⟩ hm
    simp only [Ty.m] at hm
    have hl := Ty.mL_len a
    obtain ⟨n, rfl⟩ : ∃ q, n = q + 2 := ⟨n - 2, by omega⟩
    show ((gd (k == k') (zEqualFunc_Type_EqualType (n + 1) a b) false).bind fun x1 => some ((k == k') && x1)) = _
    rw [zEqualFunc_Type_EqualType_ok a b o1 (by omega) fun x hx y => ih n (by omega) x y (Ty.oks_iff.1 o2 x hx) (by have := Ty.mL_mem hx; omega)]
    simp only [Ty.beq, Ty.beqs_eq]
    cases (k == k') <;> cases beqL Ty.beq a b <;> rfl
theorem zEqualFunc_Expr_EqualExpr_ok {n : Nat} (a b : List Ex) (ha : a.length ≤ 9223372036854775807) (hn : a.length < n) (hel : ∀ x ∈ a, ∀ y, iEqualExpr n x y = some (Ex.beq x y)) : zEqualFunc_Expr_EqualExpr (n + 1) a b = some (beqL Ex.beq a b) := by
  show (bif ((a.length : Int) != (b.length : Int)) then some false else zEqualFunc_Expr_EqualExpr.l4 n (iEqualExpr n) (zEqualFunc_Expr_EqualExpr n) n b a (a.length : Int) 0) = _
  refine eq_list Ex.beq fun hl => ?_
  exact eq_loop Ex.beq (fun x y => iEqualExpr n x.eta y.eta) (fun m k => zEqualFunc_Expr_EqualExpr.l4 n (iEqualExpr n) (zEqualFunc_Expr_EqualExpr n) m b a (a.length : Int) k) a b ha hl (fun x hx y => by simp only [Ex.eta_eq]; exact hel x hx y) (fun m k hk => rfl) n hn
theorem iEqualExpr_ok : ∀ (n : Nat) (t u : Ex), t.ok → t.m ≤ n → iEqualExpr n t u = some (Ex.beq t u) := by
  intro n
  induction n using Nat.strongRecOn with
  | ind n ih =>
    rintro ⟨k, nm, q, ⟨tk, ta⟩, a⟩ ⟨k', nm', q', ⟨tk', ta'⟩, b⟩ ⟨o1, o2, o3, o4⟩ hm
    simp only [Ex.m] at hm
    have hl := Ex.mL_len a
    obtain ⟨n, rfl⟩ : ∃ q, n = q + 2 := ⟨n - 2, by omega⟩
    show ((gd (((k == k') && (seqT nm nm')) && (q == q')) (iEqualType (n + 1) (.mk tk ta) (.mk tk' ta')) false).bind fun x1 =>
      (gd ((((k == k') && (seqT nm nm')) && (q == q')) && x1) (zEqualFunc_Expr_EqualExpr (n + 1) a b) false).bind fun x2 =>
      some (((((k == k') && (seqT nm nm')) && (q == q')) && x1) && x2)) = _
    rw [iEqualType_ok (n + 1) _ _ o2 (by omega), zEqualFunc_Expr_EqualExpr_ok a b o3 (by omega) fun x hx y => ih n (by omega) x y (Ex.oks_iff.1 o4 x hx) (by have := Ex.mL_mem hx; omega)]
    simp only [Ex.beq, Ex.beqs_eq]
    cases (k == k') <;> cases (seqT nm nm') <;> cases (q == q') <;> cases (Ty.beq (.mk tk ta) (.mk tk' ta')) <;> cases beqL Ex.beq a b <;> rfl
theorem zEqualFunc_Core_EqualCore_ok {n : Nat} (a b : List Co) (ha : a.length ≤ 9223372036854775807) (hn : a.length < n) (hel : ∀ x ∈ a, ∀ y, iEqualCore n x y = some (Co.beq x y)) : zEqualFunc_Core_EqualCore (n + 1) a b = some (beqL Co.beq a b) := by
  show (bif ((a.length : Int) != (b.length : Int)) then some false else zEqualFunc_Core_EqualCore.l4 n (iEqualCore n) (zEqualFunc_Core_EqualCore n) (zEqualFunc_CoreBind_EqualBind n) (iEqualBind n) n b a (a.length : Int) 0) = _
  refine eq_list Co.beq fun hl => ?_
  exact eq_loop Co.beq (fun x y => iEqualCore n x.eta y.eta) (fun m k => zEqualFunc_Core_EqualCore.l4 n (iEqualCore n) (zEqualFunc_Core_EqualCore n) (zEqualFunc_CoreBind_EqualBind n) (iEqualBind n) m b a (a.length : Int) k) a b ha hl (fun x hx y => by simp only [Co.eta_eq]; exact hel x hx y) (fun m k hk => rfl) n hn
theorem zEqualFunc_CoreBind_EqualBind_ok {n : Nat} (a b : List Bi) (ha : a.length ≤ 9223372036854775807) (hn : a.length < n) (hel : ∀ x ∈ a, ∀ y, iEqualBind n x y = some (Bi.beq x y)) : zEqualFunc_CoreBind_EqualBind (n + 1) a b = some (beqL Bi.beq a b) := by
  show (bif ((a.length : Int) != (b.length : Int)) then some false else zEqualFunc_CoreBind_EqualBind.l4 n (iEqualCore n) (zEqualFunc_Core_EqualCore n) (zEqualFunc_CoreBind_EqualBind n) (iEqualBind n) n b a (a.length : Int) 0) = _
  refine eq_list Bi.beq fun hl => ?_
  exact eq_loop Bi.beq (fun x y => iEqualBind n (Bi.eta x) (Bi.eta y)) (fun m k => zEqualFunc_CoreBind_EqualBind.l4 n (iEqualCore n) (zEqualFunc_Core_EqualCore n) (zEqualFunc_CoreBind_EqualBind n) (iEqualBind n) m b a (a.length : Int) k) a b ha hl (fun x hx y => by simp only [Bi.eta_eq]; exact hel x hx y) (fun m k hk => rfl) n hn
theorem iEqualBind_ok {n : Nat} (x y : Bi) (h : iEqualCore n x.2 y.2 = some (Co.beq x.2 y.2)) : iEqualBind (n + 1) x y = some (Bi.beq x y) := by
  show ((gd (seqT x.1 y.1) (iEqualCore n x.2.eta y.2.eta) false).bind fun x1 => some ((seqT x.1 y.1) && x1)) = _
  rw [Co.eta_eq, Co.eta_eq, h]
  simp only [Bi.beq]
  cases seqT x.1 y.1 <;> cases Co.beq x.2 y.2 <;> rfl
theorem iEqualCore_ok : ∀ (n : Nat) (t u : Co), t.ok → t.m ≤ n → iEqualCore n t u = some (Co.beq t u) := by
  intro n
  induction n using Nat.strongRecOn with
  | ind n ih =>
    rintro ⟨k, nm, q, ⟨tk, ta⟩, ⟨uk, ua⟩, a, e⟩ ⟨k', nm', q', ⟨tk', ta'⟩, ⟨uk', ua'⟩, b, g⟩ ⟨o1, o2, o3, o4, o5, o6, o7⟩ hm
    simp only [Co.m] at hm
    have hl := Co.mL_len a
    have hl2 := Co.mE_len e
    obtain ⟨n, rfl⟩ : ∃ q, n = q + 3 := ⟨n - 3, by omega⟩
    show ((gd (((k == k') && (seqT nm nm')) && (q == q')) (iEqualType (n + 2) (.mk tk ta) (.mk tk' ta')) false).bind fun x1 =>
      (gd ((((k == k') && (seqT nm nm')) && (q == q')) && x1) (iEqualType (n + 2) (.mk uk ua) (.mk uk' ua')) false).bind fun x2 =>
      (gd (((((k == k') && (seqT nm nm')) && (q == q')) && x1) && x2) (zEqualFunc_Core_EqualCore (n + 2) a b) false).bind fun x3 =>
      (gd ((((((k == k') && (seqT nm nm')) && (q == q')) && x1) && x2) && x3) (zEqualFunc_CoreBind_EqualBind (n + 2) e g) false).bind fun x4 =>
      some (((((((k == k') && (seqT nm nm')) && (q == q')) && x1) && x2) && x3) && x4)) = _
    rw [iEqualType_ok (n + 2) _ _ o2 (by omega), iEqualType_ok (n + 2) _ _ o3 (by omega), zEqualFunc_Core_EqualCore_ok (n := n + 1) a b o4 (by omega) fun x hx y => ih (n + 1) (by omega) x y (Co.oks_iff.1 o5 x hx) (by have := Co.mL_mem hx; omega),
      zEqualFunc_CoreBind_EqualBind_ok (n := n + 1) e g o6 (by omega) fun x hx y => iEqualBind_ok x y (ih n (by omega) x.2 y.2 (Co.okE_iff.1 o7 x hx).2 (by have := Co.mE_mem hx; simp only [Bi.m] at this; omega))]
    simp only [Co.beq, Co.beqs_eq, Co.beqE_eq]
    cases (k == k') <;> cases (seqT nm nm') <;> cases (q == q') <;> cases (Ty.beq (.mk tk ta) (.mk tk' ta')) <;> cases (Ty.beq (.mk uk ua) (.mk uk' ua')) <;> cases beqL Co.beq a b <;> cases beqL Bi.beq e g <;> rfl
theorem iEqualBinds_ok (n : Nat) (e g : List Bi) (he : e.length ≤ 9223372036854775807) (ho : ∀ x ∈ e, Bi.ok x) (hm : Co.mE e + 3 ≤ n) : iEqualBinds n e g = some (beqL Bi.beq e g) := by
  have hl2 := Co.mE_len e
  obtain ⟨n, rfl⟩ : ∃ q, n = q + 2 := ⟨n - 2, by omega⟩
  show ((zEqualFunc_CoreBind_EqualBind (n + 2) e g).bind fun x1 => some x1) = _
  rw [zEqualFunc_CoreBind_EqualBind_ok (n := n + 1) e g he (by omega) fun x hx y => iEqualBind_ok x y (iEqualCore_ok n x.2 y.2 (ho x hx).2 (by have := Co.mE_mem hx; simp only [Bi.m] at this; omega))]
  rfl
end Go.Proofs.Ytbbncbojkkackaa
namespace Go.Pu
open Go.Tx
/-- A loop that sums. -/
theorem sum_loop {α : Type} (nd : α → Nat) (xs : List α) (hx : xs.length ≤ 9223372036854775807) (L : Nat → Int → Int → Option Int) (g : α → Option Int) (fin : Nat → Int → Option Int) (hg : ∀ x ∈ xs, g x = some (nd x : Int))
    (h : ∀ m (k : Nat) (s : Int), k ≤ xs.length → L (m + 1) k s = bif decide ((k : Int) < (xs.length : Int)) then (nthT xs k).bind fun x => (g x).bind fun v => L m (w64 ((k : Int) + 1)) (w64 (s + v)) else fin m s) :
    ∀ m (s : Nat), xs.length < m → s + szE nd xs ≤ 9223372036854775807 → L m 0 s = fin (m - xs.length - 1) ((s + szE nd xs : Nat) : Int) := by
  have main : ∀ (d k m : Nat) (s : Nat), k + d = xs.length → d < m → s + szE nd (xs.drop k) ≤ 9223372036854775807 → L m k s = fin (m - d - 1) ((s + szE nd (xs.drop k) : Nat) : Int) := by
    intro d
    induction d with
    | zero =>
      intro k m s hk hm hs
      obtain ⟨m, rfl⟩ : ∃ q, m = q + 1 := ⟨m - 1, by omega⟩
      rw [h m k s (by omega)]
      have : decide ((k : Int) < (xs.length : Int)) = false := by simp; omega
      rw [this, List.drop_eq_nil_of_le (by omega)]
      rfl
    | succ d ih =>
      intro k m s hk hm hs
      obtain ⟨m, rfl⟩ : ∃ q, m = q + 1 := ⟨m - 1, by omega⟩
      rw [h m k s (by omega)]
      have hlt : k < xs.length := by omega
      have : decide ((k : Int) < (xs.length : Int)) = true := by simp; omega
      have e : w64 ((k : Int) + 1) = ((k + 1 : Nat) : Int) := by rw [w64_id (by omega) (by omega)]; rfl
      rw [List.drop_eq_getElem_cons hlt] at hs ⊢
      simp only [szE] at hs ⊢
      rw [this, cond_true, nthT_nat, List.getElem?_eq_getElem hlt, Option.bind_some, hg _ (List.getElem_mem hlt), Option.bind_some, e, w64_id (by omega) (by omega)]
      have e2 : (s : Int) + (nd xs[k] : Int) = ((s + nd xs[k] : Nat) : Int) := by simp
      rw [e2, ih (k + 1) m _ (by omega) (by omega) (by omega), show m + 1 - (d + 1) - 1 = m - d - 1 by omega, Nat.add_assoc]
  intro m s hm hs
  have := main xs.length 0 m s (by omega) hm (by simpa using hs)
  simpa using this
end Go.Pu
namespace Go.Tx
open Go.Pu
mutual
def Co.nd : Co → Nat
  | .mk _ _ _ _ _ a e => 1 + Co.ndL a + Co.ndE e
def Co.ndL : List Co → Nat
  | [] => 0
  | x :: r => Co.nd x + Co.ndL r
def Co.ndE : List (ByteArray × Co) → Nat
  | [] => 0
  | x :: r => Co.ndP x + Co.ndE r
def Co.ndP : ByteArray × Co → Nat
  | (_, c) => Co.nd c
end
theorem Co.ndL_eq (l : List Co) : Co.ndL l = Go.Pu.szE Co.nd l := by
  induction l with
  | nil => rfl
  | cons x r ih => simp only [Co.ndL, Go.Pu.szE, ih]
theorem Co.ndE_eq (l : List Bi) : Co.ndE l = Go.Pu.szE (fun b => Co.nd b.2) l := by
  induction l with
  | nil => rfl
  | cons x r ih => obtain ⟨n, c⟩ := x; simp only [Co.ndE, Go.Pu.szE, ih, Co.ndP]
mutual
theorem Co.nd_le : ∀ t : Co, t.nd ≤ 1 + t.sz
  | .mk k nm n f t a e => by
    simp only [Co.nd, Co.sz]
    have := Co.ndL_le a
    have := Co.ndE_le e
    omega
theorem Co.ndL_le : ∀ l : List Co, Co.ndL l ≤ Co.szs l
  | [] => by simp [Co.ndL]
  | x :: r => by
    simp only [Co.ndL, Co.szs]
    have := Co.nd_le x
    have := Co.ndL_le r
    omega
theorem Co.ndE_le : ∀ l : List (ByteArray × Co), Co.ndE l ≤ Co.szE l
  | [] => by simp [Co.ndE]
  | x :: r => by
    simp only [Co.ndE, Co.szE]
    have := Co.ndP_le x
    have := Co.ndE_le r
    omega
theorem Co.ndP_le : ∀ l : ByteArray × Co, Co.ndP l ≤ 1 + Co.szP l
  | (n, c) => by
    simp only [Co.ndP, Co.szP]
    have := Co.nd_le c
    omega
end
end Go.Tx
namespace Go.Proofs.Ytbbncbojkkackaa
open Go.Tx Go.Pu
theorem sSizeOfCore_ok : ∀ (n : Nat) (d : Co), d.ok → d.nd ≤ 9223372036854775807 → d.m ≤ n → sSizeOfCore n d = some (d.nd : Int) := by
  intro n
  induction n using Nat.strongRecOn with
  | ind n ih =>
    rintro ⟨k, nm, q, ⟨tk, ta⟩, ⟨uk, ua⟩, a, e⟩ ⟨o1, o2, o3, o4, o5, o6, o7⟩ hs hm
    simp only [Co.m] at hm
    simp only [Co.nd] at hs
    rw [Co.ndL_eq, Co.ndE_eq] at hs
    have hl := Co.mL_len a
    have hl2 := Co.mE_len e
    have one : ∀ {α : Type} (nd : α → Nat) (l : List α) x, x ∈ l → nd x ≤ szE nd l := by
      intro α nd l x hx
      induction l with
      | nil => cases hx
      | cons y r ih =>
        simp only [szE]
        rcases List.mem_cons.1 hx with rfl | hx
        · omega
        · have := ih hx; omega
    obtain ⟨n, rfl⟩ : ∃ q, n = q + 1 := ⟨n - 1, by omega⟩
    show sSizeOfCore.l3 n (sSizeOfCore n) n ((1 : Nat) : Int) 0 (Co.mk k nm q (.mk tk ta) (.mk uk ua) a e) = _
    rw [sum_loop Co.nd a o4 (fun m k s => sSizeOfCore.l3 n (sSizeOfCore n) m s k (Co.mk _ nm q (.mk tk ta) (.mk uk ua) a e)) (fun x => sSizeOfCore n x.eta) (fun m s => sSizeOfCore.l7 n (sSizeOfCore n) m s 0 (Co.mk k nm q (.mk tk ta) (.mk uk ua) a e))
      (fun x hx => by rw [Co.eta_eq]; exact ih n (by omega) x (Co.oks_iff.1 o5 x hx) (by have := one Co.nd a x hx; omega) (by have := Co.mL_mem hx; omega)) (fun m k s hk => rfl) n 1 (by omega) (by omega)]
    rw [sum_loop (fun b : Bi => Co.nd b.2) e o6 (fun m j s => sSizeOfCore.l7 n (sSizeOfCore n) m s j (Co.mk k nm q (.mk tk ta) (.mk uk ua) a e)) (fun x => sSizeOfCore n x.2.eta) (fun m s => some s)
      (fun x hx => by rw [Co.eta_eq]; exact ih n (by omega) x.2 (Co.okE_iff.1 o7 x hx).2 (by have := one (fun b : Bi => Co.nd b.2) e x hx; omega) (by have := Co.mE_mem hx; simp only [Bi.m] at this; omega)) (fun m k s hk => rfl) _ _ (by omega) (by omega)]
    simp only [Co.nd]
    rw [Co.ndL_eq, Co.ndE_eq]
theorem iSizeOfCore_ok : ∀ (n : Nat) (d : Co), d.ok → d.nd ≤ 9223372036854775807 → d.m ≤ n → iSizeOfCore n d = some (d.nd : Int) := by
  intro n
  induction n using Nat.strongRecOn with
  | ind n ih =>
    rintro ⟨k, nm, q, ⟨tk, ta⟩, ⟨uk, ua⟩, a, e⟩ ⟨o1, o2, o3, o4, o5, o6, o7⟩ hs hm
    simp only [Co.m] at hm
    simp only [Co.nd] at hs
    rw [Co.ndL_eq, Co.ndE_eq] at hs
    have hl := Co.mL_len a
    have hl2 := Co.mE_len e
    have one : ∀ {α : Type} (nd : α → Nat) (l : List α) x, x ∈ l → nd x ≤ szE nd l := by
      intro α nd l x hx
      induction l with
      | nil => cases hx
      | cons y r ih =>
        simp only [szE]
        rcases List.mem_cons.1 hx with rfl | hx
        · omega
        · have := ih hx; omega
    obtain ⟨n, rfl⟩ : ∃ q, n = q + 1 := ⟨n - 1, by omega⟩
    show iSizeOfCore.l3 n (iSizeOfCore n) n ((1 : Nat) : Int) a (a.length : Int) 0 (Co.mk k nm q (.mk tk ta) (.mk uk ua) a e) = _
    rw [sum_loop Co.nd a o4 (fun m j s => iSizeOfCore.l3 n (iSizeOfCore n) m s a (a.length : Int) j (Co.mk k nm q (.mk tk ta) (.mk uk ua) a e)) (fun x => iSizeOfCore n x.eta) (fun m s => iSizeOfCore.l8 n (iSizeOfCore n) m s e (e.length : Int) 0)
      (fun x hx => by rw [Co.eta_eq]; exact ih n (by omega) x (Co.oks_iff.1 o5 x hx) (by have := one Co.nd a x hx; omega) (by have := Co.mL_mem hx; omega)) (fun m k s hk => rfl) n 1 (by omega) (by omega)]
    rw [sum_loop (fun b : Bi => Co.nd b.2) e o6 (fun m j s => iSizeOfCore.l8 n (iSizeOfCore n) m s e (e.length : Int) j) (fun x => iSizeOfCore n x.2.eta) (fun m s => some s)
      (fun x hx => by rw [Co.eta_eq]; exact ih n (by omega) x.2 (Co.okE_iff.1 o7 x hx).2 (by have := one (fun b : Bi => Co.nd b.2) e x hx; omega) (by have := Co.mE_mem hx; simp only [Bi.m] at this; omega)) (fun m k s hk => rfl) _ _ (by omega) (by omega)]
    simp only [Co.nd]
    rw [Co.ndL_eq, Co.ndE_eq]

/-- The frame of a law over a core expression whose result is a number or a boolean. -/
theorem szR_cases (s : Nat) (l : Int) (h0 : 0 ≤ l) : (decide (szR s l < 0) = true ∧ ¬ (s : Int) ≤ l) ∨ (decide (szR s l < 0) = false ∧ (s : Int) ≤ l ∧ szR s l = l - s) := by
  unfold szR
  split
  · right; simp; omega
  · left; simp; omega

theorem lFnExactSizeOfCore_ok (a : Co) (ha : a.ok) : ∃ n, lFnExactSizeOfCore n a = some true := by
  refine ⟨a.m, ?_⟩
  show ((lSzCore a.m a.eta 1048576).bind fun x1 => bif (decide (x1 < 0)) then some true else (lToCore a.m a.eta).bind fun x2 => (sSizeOfCore a.m x2.eta).bind fun x3 => (lToCore a.m a.eta).bind fun x4 => (iSizeOfCore a.m x4.eta).bind fun x5 =>
    bif (x5 != x3) then some false else (lToCore a.m a.eta).bind fun x6 => (lEqCore a.m x4.eta x6.eta).bind fun x7 => bif (!x7) then some false else some true) = _
  simp only [Co.eta_eq]
  rw [lSzCore_ok _ a ha (Nat.le_refl _) _ (by omega) (by omega), Option.bind_some]
  rcases szR_cases a.sz 1048576 (by omega) with ⟨h1, h2⟩ | ⟨h1, h2, h3⟩
  · rw [h1]; rfl
  · have hnd := Co.nd_le a
    rw [h1, cond_false, lToCore_ok _ a (by omega) (Nat.le_refl _)]
    simp only [Option.bind_some, Co.eta_eq]
    rw [sSizeOfCore_ok _ a ha (by omega) (Nat.le_refl _), iSizeOfCore_ok _ a ha (by omega) (Nat.le_refl _), lEqCore_ok _ a a ha (Nat.le_refl _), Co.beq_refl]
    simp
end Go.Proofs.Ytbbncbojkkackaa
namespace Go.Pu
open Go.Tx
theorem dec_nlt' {a b : Nat} (h : b ≤ a) : decide ((a : Int) < (b : Int)) = false := by simp; omega
theorem w64_succ {k : Nat} (h : k < 9223372036854775807) : w64 ((k : Int) + 1) = ((k + 1 : Nat) : Int) := by rw [w64_id (by omega) (by omega)]; rfl
/-- A count that runs down, and stops below zero. -/
theorem left_loop {α : Type} (nd : α → Nat) (a : List α) (ha : a.length ≤ 9223372036854775807) (L : Nat → Int → Int → Option Int) (g : α → Int → Option Int) (fin : Nat → Int → Option Int)
    (hg : ∀ x ∈ a, ∀ l : Int, 0 ≤ l → l ≤ 1048576 → g x l = some (szR (nd x) l))
    (h : ∀ m (k : Nat) (l : Int), k ≤ a.length → L (m + 1) k l = bif (decide ((k : Int) < (a.length : Int)) && decide (l ≥ 0)) then (nthT a k).bind fun x => (g x l).bind fun v => L m (w64 ((k : Int) + 1)) v else fin m l) :
    ∀ m (l : Int), -1 ≤ l → l ≤ 1048576 → a.length < m → ∃ m', m ≤ m' + a.length + 1 ∧ m' ≤ m ∧ L m 0 l = fin m' (if 0 ≤ l then szR (szE nd a) l else -1) := by
  have main : ∀ (d k m : Nat) (l : Int), -1 ≤ l → l ≤ 1048576 → k + d = a.length → d < m → ∃ m', m ≤ m' + d + 1 ∧ m' ≤ m ∧ L m k l = fin m' (if 0 ≤ l then szR (szE nd (a.drop k)) l else -1) := by
    intro d
    induction d with
    | zero =>
      intro k m l h0 h1 hk hm
      obtain ⟨m, rfl⟩ : ∃ q, m = q + 1 := ⟨m - 1, by omega⟩
      refine ⟨m, by omega, by omega, ?_⟩
      rw [h m k l (by omega), dec_nlt' (by omega), Bool.false_and, cond_false, List.drop_eq_nil_of_le (by omega)]
      congr 1
      simp only [szE]
      unfold szR
      split <;> (try split) <;> omega
    | succ d ih =>
      intro k m l h0 h1 hk hm
      obtain ⟨m, rfl⟩ : ∃ q, m = q + 1 := ⟨m - 1, by omega⟩
      have hlt : k < a.length := by omega
      rw [h m k l (by omega), dec_lt hlt, Bool.true_and]
      by_cases hl : 0 ≤ l
      · have e1 : decide (l ≥ 0) = true := by simp; omega
        rw [e1, cond_true, nthT_nat, List.getElem?_eq_getElem hlt, Option.bind_some, hg _ (List.getElem_mem hlt) l hl h1, Option.bind_some, w64_succ (by omega), List.drop_eq_getElem_cons hlt]
        have hb : -1 ≤ szR (nd a[k]) l ∧ szR (nd a[k]) l ≤ 1048576 := by unfold szR; split <;> omega
        obtain ⟨m', q1, q2, q3⟩ := ih (k + 1) m (szR (nd a[k]) l) hb.1 hb.2 (by omega) (by omega)
        refine ⟨m', by omega, by omega, ?_⟩
        rw [q3]
        congr 1
        simp only [szE]
        unfold szR
        split <;> split <;> (try split) <;> (try split) <;> omega
      · have e1 : decide (l ≥ 0) = false := by simp; omega
        rw [e1, cond_false]
        refine ⟨m, by omega, by omega, ?_⟩
        rw [if_neg hl]
        congr 1
        omega
  intro m l h0 h1 hm
  have := main a.length 0 m l h0 h1 (by omega) hm
  simpa using this
def mxE {α : Type} (dp : α → Nat) : List α → Nat
  | [] => 0
  | x :: r => max (dp x) (mxE dp r)
theorem mxE_mem {α : Type} {dp : α → Nat} {l : List α} {x : α} (h : x ∈ l) : dp x ≤ mxE dp l := by
  induction l with
  | nil => cases h
  | cons y r ih =>
    simp only [mxE]
    rcases List.mem_cons.1 h with rfl | h
    · omega
    · have := ih h; omega
theorem max_loop {α : Type} (dp : α → Nat) (a : List α) (ha : a.length ≤ 9223372036854775807) (L : Nat → Int → Int → Option Int) (g : α → Option Int) (fin : Int → Option Int)
    (hg : ∀ x ∈ a, g x = some (dp x : Int))
    (h : ∀ m (k : Nat) (s : Int), k ≤ a.length → L (m + 1) k s = bif decide ((k : Int) < (a.length : Int)) then (nthT a k).bind fun x => (g x).bind fun v => L m (w64 ((k : Int) + 1)) (max s v) else fin s) :
    ∀ m (s : Nat), a.length < m → L m 0 s = fin ((max s (mxE dp a) : Nat) : Int) := by
  have main : ∀ (d k m s : Nat), k + d = a.length → d < m → L m k s = fin ((max s (mxE dp (a.drop k)) : Nat) : Int) := by
    intro d
    induction d with
    | zero =>
      intro k m s hk hm
      obtain ⟨m, rfl⟩ : ∃ q, m = q + 1 := ⟨m - 1, by omega⟩
      rw [h m k s (by omega), dec_nlt' (by omega), cond_false, List.drop_eq_nil_of_le (by omega)]
      simp [mxE]
    | succ d ih =>
      intro k m s hk hm
      obtain ⟨m, rfl⟩ : ∃ q, m = q + 1 := ⟨m - 1, by omega⟩
      have hlt : k < a.length := by omega
      rw [h m k s (by omega), dec_lt hlt, cond_true, nthT_nat, List.getElem?_eq_getElem hlt, Option.bind_some, hg _ (List.getElem_mem hlt), Option.bind_some, w64_succ (by omega), List.drop_eq_getElem_cons hlt,
        show max (s : Int) (dp a[k] : Int) = ((max s (dp a[k]) : Nat) : Int) by omega, ih (k + 1) m _ (by omega) (by omega)]
      simp only [mxE, Nat.max_assoc]
  intro m s hm
  have := main a.length 0 m s (by omega) hm
  simpa using this
theorem all_loop {α : Type} (p : α → Bool) (a : List α) (ha : a.length ≤ 9223372036854775807) (L : Nat → Int → Option Bool) (g : α → Option Bool) (fin : Nat → Option Bool)
    (hg : ∀ x ∈ a, g x = some (p x))
    (h : ∀ m (k : Nat), k ≤ a.length → L (m + 1) k = bif decide ((k : Int) < (a.length : Int)) then (nthT a k).bind fun x => (g x).bind fun v => bif !v then some false else L m (w64 ((k : Int) + 1)) else fin m) :
    ∀ m, a.length < m → L m 0 = bif a.all p then fin (m - a.length - 1) else some false := by
  have main : ∀ (d k m : Nat), k + d = a.length → d < m → L m k = bif (a.drop k).all p then fin (m - d - 1) else some false := by
    intro d
    induction d with
    | zero =>
      intro k m hk hm
      obtain ⟨m, rfl⟩ : ∃ q, m = q + 1 := ⟨m - 1, by omega⟩
      rw [h m k (by omega), dec_nlt' (by omega), cond_false, List.drop_eq_nil_of_le (by omega)]
      rfl
    | succ d ih =>
      intro k m hk hm
      obtain ⟨m, rfl⟩ : ∃ q, m = q + 1 := ⟨m - 1, by omega⟩
      have hlt : k < a.length := by omega
      rw [h m k (by omega), dec_lt hlt, cond_true, nthT_nat, List.getElem?_eq_getElem hlt, Option.bind_some, hg _ (List.getElem_mem hlt), Option.bind_some, w64_succ (by omega), List.drop_eq_getElem_cons hlt, ih (k + 1) m (by omega) (by omega),
        show m + 1 - (d + 1) - 1 = m - d - 1 by omega, List.all_cons]
      cases p a[k] <;> rfl
  intro m hm
  have := main a.length 0 m (by omega) hm
  simpa using this
theorem any_loop {α : Type} (p : α → Bool) (a : List α) (ha : a.length ≤ 9223372036854775807) (L : Nat → Int → Option Int) (g : α → Option Bool)
    (hg : ∀ x ∈ a, g x = some (p x))
    (h : ∀ m (k : Nat), k ≤ a.length → L (m + 1) k = bif decide ((k : Int) < (a.length : Int)) then (nthT a k).bind fun x => (g x).bind fun v => bif v then some (k : Int) else L m (w64 ((k : Int) + 1)) else some (-1)) :
    ∀ m, a.length < m → ∃ r, L m 0 = some r ∧ decide (r ≥ 0) = a.any p := by
  have main : ∀ (d k m : Nat), k + d = a.length → d < m → ∃ r, L m k = some r ∧ decide (r ≥ 0) = (a.drop k).any p := by
    intro d
    induction d with
    | zero =>
      intro k m hk hm
      obtain ⟨m, rfl⟩ : ∃ q, m = q + 1 := ⟨m - 1, by omega⟩
      rw [h m k (by omega), dec_nlt' (by omega), cond_false, List.drop_eq_nil_of_le (by omega)]
      exact ⟨-1, rfl, rfl⟩
    | succ d ih =>
      intro k m hk hm
      obtain ⟨m, rfl⟩ : ∃ q, m = q + 1 := ⟨m - 1, by omega⟩
      have hlt : k < a.length := by omega
      rw [h m k (by omega), dec_lt hlt, cond_true, nthT_nat, List.getElem?_eq_getElem hlt, Option.bind_some, hg _ (List.getElem_mem hlt), Option.bind_some, w64_succ (by omega), List.drop_eq_getElem_cons hlt, List.any_cons]
      cases p a[k]
      · obtain ⟨r, h1, h2⟩ := ih (k + 1) m (by omega) (by omega)
        exact ⟨r, h1, by rw [h2, Bool.false_or]⟩
      · exact ⟨k, rfl, by simp⟩
  intro m hm
  have := main a.length 0 m (by omega) hm
  simpa using this
/-- All the places of a row. -/
def allK (p : Nat → Bool) : Nat → Nat → Bool
  | 0, _ => true
  | d + 1, k => p k && allK p d (k + 1)
theorem idx_loop {R : Type} (N : Nat) (hN : N ≤ 9223372036854775807) (p : Nat → Bool) (f : R) (L : Nat → Int → Option R) (fin : Option R)
    (hs : ∀ m (k : Nat), k < N → L (m + 1) k = bif p k then L m (w64 ((k : Int) + 1)) else some f) (he : ∀ m, L (m + 1) (N : Int) = fin) :
    ∀ m, N < m → L m 0 = bif allK p N 0 then fin else some f := by
  have main : ∀ (d k m : Nat), k + d = N → d < m → L m k = bif allK p d k then fin else some f := by
    intro d
    induction d with
    | zero =>
      intro k m hk hm
      obtain ⟨m, rfl⟩ : ∃ q, m = q + 1 := ⟨m - 1, by omega⟩
      rw [show k = N by omega, he]
      rfl
    | succ d ih =>
      intro k m hk hm
      obtain ⟨m, rfl⟩ : ∃ q, m = q + 1 := ⟨m - 1, by omega⟩
      rw [hs m k (by omega), w64_succ (by omega), ih (k + 1) m (by omega) (by omega)]
      simp only [allK]
      cases p k <;> rfl
  intro m hm
  have := main N 0 m (by omega) hm
  simpa using this
theorem frame1 {s : Nat} {X : Option Bool} (hX : s ≤ 1048576 → X = some true) :
    ((some (szR s 1048576)).bind fun x1 => bif decide (x1 < 0) then some true else X) = some true := by
  rw [Option.bind_some]
  unfold szR
  by_cases h : (s : Int) ≤ 1048576
  · rw [if_pos h, hX (by omega)]
    cases decide (1048576 - (s : Int) < 0) <;> rfl
  · rw [if_neg h]; rfl
theorem byteT_at (s : ByteArray) (k : Nat) (h : k < s.size) : ∃ x : Int, byteT s (k : Int) = some x := by
  unfold byteT
  have : k < s.data.size := h
  rw [if_pos (by omega)]
  exact ⟨(s.data[k].toNat : Int), by rw [show ((k : Int)).toNat = k by omega, Array.getElem?_eq_getElem this]; rfl⟩
end Go.Pu
