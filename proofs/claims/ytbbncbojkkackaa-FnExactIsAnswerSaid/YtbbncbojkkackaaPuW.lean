/- Types, names, boxes and actions. -/
import Derived.Test.YtbbncbojkkackaaPuB
import Derived.Test.YtbbncbojkkackaaPuA
set_option linter.unusedVariables false
set_option linter.unusedSimpArgs false
namespace Go.Tx
open Go.Pu
mutual
def Ty.nd : Ty → Nat
  | .mk _ a => 1 + Ty.ndL a
def Ty.ndL : List Ty → Nat
  | [] => 0
  | x :: r => Ty.nd x + Ty.ndL r
end
mutual
def Ty.dp : Ty → Nat
  | .mk _ a => Ty.dpL a + 1
def Ty.dpL : List Ty → Nat
  | [] => 0
  | x :: r => max (Ty.dp x) (Ty.dpL r)
end
/-- How many parts a type of a kind has. -/
def arT (k : Int) (n : Nat) : Bool := (((k == 1) || (k == 2) || (k == 3)) && (n == 0)) || (((k == 4) || (k == 5)) && (n == 2))
mutual
def Ty.fm : Ty → Bool
  | .mk k a => Ty.fmL a && arT k a.length
def Ty.fmL : List Ty → Bool
  | [] => true
  | x :: r => Ty.fm x && Ty.fmL r
end
theorem Ty.ndL_eq (l : List Ty) : Ty.ndL l = Go.Pu.szE Ty.nd l := by
  induction l with
  | nil => rfl
  | cons x r ih => simp only [Ty.ndL, Go.Pu.szE, ih]
theorem Ty.dpL_eq (l : List Ty) : Ty.dpL l = mxE Ty.dp l := by
  induction l with
  | nil => rfl
  | cons x r ih => simp only [Ty.dpL, mxE, ih]
theorem Ty.fmL_eq (l : List Ty) : Ty.fmL l = l.all Ty.fm := by
  induction l with
  | nil => rfl
  | cons x r ih => simp only [Ty.fmL, List.all_cons, ih]
mutual
theorem Ty.nd_le : ∀ t : Ty, t.nd ≤ 1 + t.sz
  | .mk k a => by
    simp only [Ty.nd, Ty.sz]
    have := Ty.ndL_le a
    omega
theorem Ty.ndL_le : ∀ l : List Ty, Ty.ndL l ≤ Ty.szs l
  | [] => by simp [Ty.ndL]
  | x :: r => by
    simp only [Ty.ndL, Ty.szs]
    have := Ty.nd_le x
    have := Ty.ndL_le r
    omega
end
mutual
theorem Ty.dp_le : ∀ t : Ty, t.dp ≤ t.nd
  | .mk k a => by
    simp only [Ty.nd, Ty.dp]
    have := Ty.dpL_le a
    omega
theorem Ty.dpL_le : ∀ l : List Ty, Ty.dpL l ≤ Ty.ndL l
  | [] => by simp [Ty.ndL, Ty.dpL]
  | x :: r => by
    simp only [Ty.ndL, Ty.dpL]
    have := Ty.dp_le x
    have := Ty.dpL_le r
    omega
end
theorem Ty.nd_mem {l : List Ty} {x : Ty} (h : x ∈ l) : Ty.nd x ≤ Ty.ndL l := by
  induction l with
  | nil => cases h
  | cons y r ih =>
    simp only [Ty.ndL]
    rcases List.mem_cons.1 h with rfl | h
    · omega
    · have := ih h; omega
def Ty.valid (t : Ty) : Bool := decide (t.nd ≤ 800) && decide (t.dp ≤ 24) && t.fm
def Ty.note (t : Ty) : Bool := t.valid && decide (t.nd ≤ 15) && decide (t.dp ≤ 5)
def Ty.ground0 (t : Ty) : Ty := bif !t.valid || (t.kind == 1) then .mk 0 [] else bif ((t.args.length : Int) == 0) then .mk t.kind [] else .mk t.kind [.mk 1 [], .mk 1 []]
def Ty.ground (t : Ty) : Bool := t.valid && (t.kind != 1) && Ty.beq t t.ground0
end Go.Tx
namespace Go.Proofs.Ytbbncbojkkackaa
open Go.Tx Go.Pu
theorem sL3Left_ok : ∀ (n : Nat) (t : Ty), t.ok → t.m ≤ n → ∀ l : Int, 0 ≤ l → l ≤ 1048576 → sL3Left n t l = some (szR t.nd l) := by
  intro n
  induction n using Nat.strongRecOn with
  | ind n ih =>
    rintro ⟨k, a⟩ ⟨o1, o2⟩ hm l h0 h1
    simp only [Ty.m] at hm
    have hl := Ty.mL_len a
    obtain ⟨n, rfl⟩ : ∃ q, n = q + 1 := ⟨n - 1, by omega⟩
    show sL3Left.l3 n (sL3Left n) n (w64 (l - 1)) 0 (.mk k a) = _
    rw [w64_id (by omega) (by omega)]
    obtain ⟨m', _, _, q⟩ := left_loop Ty.nd a o1 (fun m i l => sL3Left.l3 n (sL3Left n) m l i (.mk k a)) (fun x l => sL3Left n x.eta l) (fun m l => some l)
      (fun x hx l q1 q2 => by rw [Ty.eta_eq]; exact ih n (by omega) x (Ty.oks_iff.1 o2 x hx) (by have := Ty.mL_mem hx; omega) l q1 q2) (fun m i l hk => rfl) n (l - 1) (by omega) (by omega) (by omega)
    rw [q]
    simp only [Ty.nd, Ty.ndL_eq]
    unfold szR
    congr 1
    split <;> (try split) <;> (try split) <;> omega
theorem sSizeOfType_ok : ∀ (n : Nat) (t : Ty), t.ok → t.nd ≤ 9223372036854775807 → t.m ≤ n → sSizeOfType n t = some (t.nd : Int) := by
  intro n
  induction n using Nat.strongRecOn with
  | ind n ih =>
    rintro ⟨k, a⟩ ⟨o1, o2⟩ hs hm
    simp only [Ty.m] at hm
    simp only [Ty.nd] at hs
    have hl := Ty.mL_len a
    obtain ⟨n, rfl⟩ : ∃ q, n = q + 1 := ⟨n - 1, by omega⟩
    show sSizeOfType.l3 n (sSizeOfType n) n ((1 : Nat) : Int) 0 (.mk k a) = _
    rw [sum_loop Ty.nd a o1 (fun m i s => sSizeOfType.l3 n (sSizeOfType n) m s i (.mk k a)) (fun x => sSizeOfType n x.eta) (fun m s => some s)
      (fun x hx => by rw [Ty.eta_eq]; exact ih n (by omega) x (Ty.oks_iff.1 o2 x hx) (by have := Ty.nd_mem hx; omega) (by have := Ty.mL_mem hx; omega)) (fun m i s hk => rfl) n 1 (by omega) (by rw [← Ty.ndL_eq]; omega)]
    simp only [Ty.nd, Ty.ndL_eq]
theorem iSizeOfType_ok : ∀ (n : Nat) (t : Ty), t.ok → t.nd ≤ 9223372036854775807 → t.m ≤ n → iSizeOfType n t = some (t.nd : Int) := by
  intro n
  induction n using Nat.strongRecOn with
  | ind n ih =>
    rintro ⟨k, a⟩ ⟨o1, o2⟩ hs hm
    simp only [Ty.m] at hm
    simp only [Ty.nd] at hs
    have hl := Ty.mL_len a
    obtain ⟨n, rfl⟩ : ∃ q, n = q + 1 := ⟨n - 1, by omega⟩
    show iSizeOfType.l3 n (iSizeOfType n) n ((1 : Nat) : Int) a (a.length : Int) 0 = _
    rw [sum_loop Ty.nd a o1 (fun m i s => iSizeOfType.l3 n (iSizeOfType n) m s a (a.length : Int) i) (fun x => iSizeOfType n x.eta) (fun m s => some s)
      (fun x hx => by rw [Ty.eta_eq]; exact ih n (by omega) x (Ty.oks_iff.1 o2 x hx) (by have := Ty.nd_mem hx; omega) (by have := Ty.mL_mem hx; omega)) (fun m i s hk => rfl) n 1 (by omega) (by rw [← Ty.ndL_eq]; omega)]
    simp only [Ty.nd, Ty.ndL_eq]
theorem sL1Max_ok (n : Nat) (a b : Int) : sL1Max n a b = some (max a b) := by
  show (bif decide (a > b) then some a else some b) = _
  by_cases h : a > b
  · have : decide (a > b) = true := by simp [h]
    rw [this, cond_true]; congr 1; omega
  · have : decide (a > b) = false := by simp; omega
    rw [this, cond_false]; congr 1; omega
theorem sDepthOfType_ok : ∀ (n : Nat) (t : Ty), t.ok → t.nd ≤ 9223372036854775807 → t.m ≤ n → sDepthOfType n t = some (t.dp : Int) := by
  intro n
  induction n using Nat.strongRecOn with
  | ind n ih =>
    rintro ⟨k, a⟩ ⟨o1, o2⟩ hs hm
    simp only [Ty.m] at hm
    simp only [Ty.nd] at hs
    have hl := Ty.mL_len a
    obtain ⟨n, rfl⟩ : ∃ q, n = q + 1 := ⟨n - 1, by omega⟩
    show sDepthOfType.l3 n (sDepthOfType n) n ((0 : Nat) : Int) 0 (.mk k a) = _
    rw [max_loop Ty.dp a o1 (fun m i s => sDepthOfType.l3 n (sDepthOfType n) m s i (.mk k a)) (fun x => sDepthOfType n x.eta) (fun s => some (w64 (s + 1)))
      (fun x hx => by rw [Ty.eta_eq]; exact ih n (by omega) x (Ty.oks_iff.1 o2 x hx) (by have := Ty.nd_mem hx; omega) (by have := Ty.mL_mem hx; omega))
      (fun m i s hk => by
        show (bif _ then (nthT a i).bind fun x1 => (sDepthOfType n x1.eta).bind fun x2 => (sL1Max n s x2).bind fun x3 => sDepthOfType.l3 n (sDepthOfType n) m x3 (w64 ((i : Int) + 1)) (.mk k a) else _) = _
        simp only [sL1Max_ok, Option.bind_some]
        rfl) n 0 (by omega)]
    have hd := Ty.dpL_le a
    simp only [Ty.dp, Ty.dpL_eq] at hd ⊢
    rw [w64_id (by omega) (by omega)]
    congr 1
theorem iDepthOfType_ok : ∀ (n : Nat) (t : Ty), t.ok → t.nd ≤ 9223372036854775807 → t.m ≤ n → iDepthOfType n t = some (t.dp : Int) := by
  intro n
  induction n using Nat.strongRecOn with
  | ind n ih =>
    rintro ⟨k, a⟩ ⟨o1, o2⟩ hs hm
    simp only [Ty.m] at hm
    simp only [Ty.nd] at hs
    have hl := Ty.mL_len a
    obtain ⟨n, rfl⟩ : ∃ q, n = q + 1 := ⟨n - 1, by omega⟩
    show iDepthOfType.l3 n (iDepthOfType n) n ((0 : Nat) : Int) a (a.length : Int) 0 = _
    rw [max_loop Ty.dp a o1 (fun m i s => iDepthOfType.l3 n (iDepthOfType n) m s a (a.length : Int) i) (fun x => iDepthOfType n x.eta) (fun s => some (w64 (s + 1)))
      (fun x hx => by rw [Ty.eta_eq]; exact ih n (by omega) x (Ty.oks_iff.1 o2 x hx) (by have := Ty.nd_mem hx; omega) (by have := Ty.mL_mem hx; omega))
      (fun m i s hk => rfl) n 0 (by omega)]
    have hd := Ty.dpL_le a
    simp only [Ty.dp, Ty.dpL_eq] at hd ⊢
    rw [w64_id (by omega) (by omega)]
    congr 1
theorem arT_eq (k : Int) (n : Nat) : (bif (k == 1) then some ((n : Int) == 0) else bif (k == 2) then some ((n : Int) == 0) else bif (k == 3) then some ((n : Int) == 0) else bif (k == 4) then some ((n : Int) == 2) else bif (k == 5) then some ((n : Int) == 2) else some false) = some (arT k n) := by
  have e0 : ((n : Int) == 0) = (n == 0) := by rw [Bool.eq_iff_iff, beq_iff_eq, beq_iff_eq]; omega
  have e2 : ((n : Int) == 2) = (n == 2) := by rw [Bool.eq_iff_iff, beq_iff_eq, beq_iff_eq]; omega
  rw [e0, e2]
  by_cases h1 : k = 1
  · subst h1; simp [arT]
  by_cases h2 : k = 2
  · subst h2; simp [arT]
  by_cases h3 : k = 3
  · subst h3; simp [arT]
  by_cases h4 : k = 4
  · subst h4; simp [arT]
  by_cases h5 : k = 5
  · subst h5; simp [arT]
  have f1 : (k == 1) = false := by simp [h1]
  have f2 : (k == 2) = false := by simp [h2]
  have f3 : (k == 3) = false := by simp [h3]
  have f4 : (k == 4) = false := by simp [h4]
  have f5 : (k == 5) = false := by simp [h5]
  simp only [arT, f1, f2, f3, f4, f5]
  rfl
theorem sL3Form_ok : ∀ (n : Nat) (t : Ty), t.ok → t.m ≤ n → sL3Form n t = some t.fm := by
  intro n
  induction n using Nat.strongRecOn with
  | ind n ih =>
    rintro ⟨k, a⟩ ⟨o1, o2⟩ hm
    simp only [Ty.m] at hm
    have hl := Ty.mL_len a
    obtain ⟨n, rfl⟩ : ∃ q, n = q + 1 := ⟨n - 1, by omega⟩
    show sL3Form.l2 n (sL3Form n) n 0 (.mk k a) = _
    rw [all_loop Ty.fm a o1 (fun m i => sL3Form.l2 n (sL3Form n) m i (.mk k a)) (fun x => sL3Form n x.eta) (fun m => some (arT k a.length))
      (fun x hx => by rw [Ty.eta_eq]; exact ih n (by omega) x (Ty.oks_iff.1 o2 x hx) (by have := Ty.mL_mem hx; omega))
      (fun m i hk => by
        show (bif _ then _ else (bif (k == 1) then some ((a.length : Int) == 0) else bif (k == 2) then some ((a.length : Int) == 0) else bif (k == 3) then some ((a.length : Int) == 0) else bif (k == 4) then some ((a.length : Int) == 2) else bif (k == 5) then some ((a.length : Int) == 2) else some false)) = _
        rw [arT_eq]
        rfl) n (by omega)]
    simp only [Ty.fm, Ty.fmL_eq]
    cases a.all Ty.fm <;> rfl
theorem iAreTypeNodes_ok : ∀ (n : Nat) (t : Ty), t.ok → 2 * t.m ≤ n → iAreTypeNodes n t = some t.fm := by
  intro n
  induction n using Nat.strongRecOn with
  | ind n ih =>
    rintro ⟨k, a⟩ ⟨o1, o2⟩ hm
    simp only [Ty.m] at hm
    have hl := Ty.mL_len a
    obtain ⟨n, rfl⟩ : ∃ q, n = q + 4 := ⟨n - 4, by omega⟩
    have hc : zContainsFunc_Type_AreTypeNodes_1 (n + 3) a = some (a.any fun x => !x.fm) := by
      show (zIndexFunc_Type_AreTypeNodes_1 (n + 2) a).bind (fun x1 => some (decide (x1 ≥ 0))) = _
      obtain ⟨r, h1, h2⟩ := any_loop (fun x : Ty => !x.fm) a o1 (fun m i => zIndexFunc_Type_AreTypeNodes_1.l2 (n + 1) (iAreTypeNodes (n + 1)) (zContainsFunc_Type_AreTypeNodes_1 (n + 1)) (zIndexFunc_Type_AreTypeNodes_1 (n + 1)) (iAreTypeNodes_1 (n + 1)) m a (a.length : Int) i) (fun x => iAreTypeNodes_1 (n + 1) x.eta)
        (fun x hx => by
          rw [Ty.eta_eq]
          show (iAreTypeNodes n x.eta).bind (fun x1 => some (!x1)) = _
          rw [Ty.eta_eq, ih n (by omega) x (Ty.oks_iff.1 o2 x hx) (by have := Ty.mL_mem hx; omega)]
          rfl) (fun m i hk => rfl) (n + 1) (by omega)
      have h1 : zIndexFunc_Type_AreTypeNodes_1 (n + 2) a = some r := h1
      rw [h1, Option.bind_some, h2]
    show (bif (k == 1) then (gd ((a.length : Int) == 0) (zContainsFunc_Type_AreTypeNodes_1 (n + 3) a) false).bind fun x1 => some (((a.length : Int) == 0) && (!x1))
      else bif (k == 2) then (gd ((a.length : Int) == 0) (zContainsFunc_Type_AreTypeNodes_1 (n + 3) a) false).bind fun x1 => some (((a.length : Int) == 0) && (!x1))
      else bif (k == 3) then (gd ((a.length : Int) == 0) (zContainsFunc_Type_AreTypeNodes_1 (n + 3) a) false).bind fun x1 => some (((a.length : Int) == 0) && (!x1))
      else bif (k == 4) then (gd ((a.length : Int) == 2) (zContainsFunc_Type_AreTypeNodes_1 (n + 3) a) false).bind fun x1 => some (((a.length : Int) == 2) && (!x1))
      else bif (k == 5) then (gd ((a.length : Int) == 2) (zContainsFunc_Type_AreTypeNodes_1 (n + 3) a) false).bind fun x1 => some (((a.length : Int) == 2) && (!x1))
      else some false) = _
    have hg : ∀ b : Bool, ((gd b (zContainsFunc_Type_AreTypeNodes_1 (n + 3) a) false).bind fun x1 => some (b && (!x1))) = some (b && a.all Ty.fm) := by
      intro b
      have : a.all Ty.fm = !(a.any fun x => !x.fm) := by
        rw [List.not_any_eq_all_not]
        simp
      rw [hc, this]
      cases b <;> rfl
    rw [hg, hg]
    have := arT_eq k a.length
    simp only [Ty.fm, Ty.fmL_eq]
    cases a.all Ty.fm
    · simp only [Bool.and_false, Bool.false_and]
      cases (k == 1) <;> cases (k == 2) <;> cases (k == 3) <;> cases (k == 4) <;> cases (k == 5) <;> rfl
    · simp only [Bool.and_true, Bool.true_and]
      exact this
theorem dec_ge (a : Nat) : decide (szR a 800 ≥ 0) = decide (a ≤ 800) := by
  unfold szR
  split
  · have : decide (a ≤ 800) = true := by simp; omega
    rw [this]; simp; omega
  · have : decide (a ≤ 800) = false := by simp; omega
    rw [this]; rfl
theorem dec_cast (a b : Nat) : decide ((a : Int) ≤ (b : Int)) = decide (a ≤ b) := by
  by_cases h : a ≤ b
  · have : decide (a ≤ b) = true := by simp [h]
    rw [this]; simp; omega
  · have : decide (a ≤ b) = false := by simp; omega
    rw [this]; simp; omega
theorem sIsValidType_ok (n : Nat) (t : Ty) (ok : t.ok) (hs : t.nd ≤ 2000000) (hm : 2 * t.m ≤ n) : sIsValidType n t = some t.valid := by
  show ((sL3Left n t.eta 800).bind fun x1 => (gd (decide (x1 ≥ 0)) (sDepthOfType n t.eta) 0).bind fun x2 => (gd ((decide (x1 ≥ 0)) && (decide (x2 ≤ ((24 : Nat) : Int)))) (sL3Form n t.eta) false).bind fun x3 =>
    some (((decide (x1 ≥ 0)) && (decide (x2 ≤ ((24 : Nat) : Int)))) && x3)) = _
  rw [Ty.eta_eq, sL3Left_ok n t ok (by omega) 800 (by omega) (by omega), sDepthOfType_ok n t ok (by omega) (by omega), sL3Form_ok n t ok (by omega), Option.bind_some, dec_ge]
  unfold Ty.valid
  cases decide (t.nd ≤ 800)
  · rfl
  · show (some (t.dp : Int)).bind _ = _
    rw [Option.bind_some, dec_cast]
    cases decide (t.dp ≤ 24) <;> cases t.fm <;> rfl
theorem iIsValidType_ok (n : Nat) (t : Ty) (ok : t.ok) (hs : t.nd ≤ 2000000) (hm : 2 * t.m ≤ n) : iIsValidType n t = some t.valid := by
  show ((iSizeOfType n t.eta).bind fun x1 => (gd (decide (x1 ≤ ((800 : Nat) : Int))) (iDepthOfType n t.eta) 0).bind fun x2 => (gd ((decide (x1 ≤ ((800 : Nat) : Int))) && (decide (x2 ≤ ((24 : Nat) : Int)))) (iAreTypeNodes n t.eta) false).bind fun x3 =>
    some (((decide (x1 ≤ ((800 : Nat) : Int))) && (decide (x2 ≤ ((24 : Nat) : Int)))) && x3)) = _
  rw [Ty.eta_eq, iSizeOfType_ok n t ok (by omega) (by omega), iDepthOfType_ok n t ok (by omega) (by omega), iAreTypeNodes_ok n t ok (by omega), Option.bind_some, dec_cast]
  unfold Ty.valid
  cases decide (t.nd ≤ 800)
  · rfl
  · show (some (t.dp : Int)).bind _ = _
    rw [Option.bind_some, dec_cast]
    cases decide (t.dp ≤ 24) <;> cases t.fm <;> rfl
theorem sGroundOf_ok (n : Nat) (t : Ty) (ok : t.ok) (hs : t.nd ≤ 2000000) (hm : 2 * t.m ≤ n) : sGroundOf n t = some t.ground0 := by
  show ((sIsValidType n t.eta).bind fun x1 => bif ((!x1) || (t.kind == 1)) then some (Ty.mk 0 []) else bif ((t.args.length : Int) == 0) then some (Ty.mk t.kind []) else some (Ty.mk t.kind [.mk 1 [], .mk 1 []])) = _
  rw [Ty.eta_eq, sIsValidType_ok n t ok hs hm, Option.bind_some]
  unfold Ty.ground0
  cases t.valid <;> cases (t.kind == 1) <;> cases ((t.args.length : Int) == 0) <;> rfl
theorem iGroundOf_ok (n : Nat) (t : Ty) (ok : t.ok) (hs : t.nd ≤ 2000000) (hm : 2 * t.m ≤ n) : iGroundOf n t = some t.ground0 := by
  show ((iIsValidType n t.eta).bind fun x1 => bif ((!x1) || (t.kind == 1)) then some (Ty.mk 0 []) else bif ((t.args.length : Int) == 0) then some (Ty.mk t.kind []) else some (Ty.mk t.kind [.mk 1 [], .mk 1 []])) = _
  rw [Ty.eta_eq, iIsValidType_ok n t ok hs hm, Option.bind_some]
  unfold Ty.ground0
  cases t.valid <;> cases (t.kind == 1) <;> cases ((t.args.length : Int) == 0) <;> rfl
theorem sIsGround_ok (n : Nat) (t : Ty) (ok : t.ok) (hs : t.nd ≤ 2000000) (hm : 2 * t.m ≤ n) : sIsGround n t = some t.ground := by
  show ((sIsValidType n t.eta).bind fun x1 => (gd (x1 && (t.kind != 1)) (sGroundOf n t.eta) (UU.dflt 3)).bind fun x2 => (gd (x1 && (t.kind != 1)) (sEqualType n t.eta (Ty.eta x2)) false).bind fun x3 => some ((x1 && (t.kind != 1)) && x3)) = _
  rw [Ty.eta_eq, sIsValidType_ok n t ok hs hm, sGroundOf_ok n t ok hs hm, Option.bind_some]
  unfold Ty.ground
  cases t.valid && (t.kind != 1)
  · rfl
  · show (sEqualType n t t.ground0.eta).bind _ = _
    rw [Ty.eta_eq, sEqualType_ok n t _ ok (by omega)]
    rfl
theorem fm_kind {t : Ty} (h : t.fm = true) : (t.kind != 0) = true := by
  obtain ⟨k, a⟩ := t
  simp only [Ty.fm, Bool.and_eq_true] at h
  have h2 := h.2
  simp only [Ty.kind, bne_iff_ne]
  rintro rfl
  simp [arT] at h2
theorem iIsGround_ok (n : Nat) (t : Ty) (ok : t.ok) (hs : t.nd ≤ 2000000) (hm : 2 * t.m ≤ n) : iIsGround n t = some t.ground := by
  show ((iGroundOf n t.eta).bind fun x1 => (gd (x1.kind != 0) (iEqualType n t.eta x1.eta) false).bind fun x2 => some ((x1.kind != 0) && x2)) = _
  rw [Ty.eta_eq, iGroundOf_ok n t ok hs hm, Option.bind_some, Ty.eta_eq, iEqualType_ok n t _ ok (by omega)]
  have hk : (t.ground0.kind != 0) = (t.valid && (t.kind != 1)) := by
    unfold Ty.ground0
    cases hv : t.valid
    · rfl
    · have hf : t.fm = true := by
        unfold Ty.valid at hv
        simp only [Bool.and_eq_true] at hv
        exact hv.2
      cases h1 : (t.kind == 1)
      · have : (t.kind != 1) = true := by rw [bne_int, h1]; rfl
        rw [this]
        cases ((t.args.length : Int) == 0) <;> exact fm_kind (t := t) hf
      · have : (t.kind != 1) = false := by rw [bne_int, h1]; rfl
        rw [this]; rfl
  rw [hk]
  unfold Ty.ground
  cases t.valid && (t.kind != 1) <;> cases Ty.beq t t.ground0 <;> rfl
theorem lFnExactIsBoxed_ok (a : Co) (ha : a.ok) : ∃ n, lFnExactIsBoxed n a = some true := by
  obtain ⟨n, ma⟩ : ∃ n, 2 * a.m ≤ n := ⟨_, Nat.le_refl _⟩
  refine ⟨n, ?_⟩
  show lFnExactIsBoxed.s n a = some true
  unfold lFnExactIsBoxed.s
  simp only [Co.eta_eq]
  rw [lSzCore_ok n a ha (by omega) _ (by omega) (by omega)]
  refine frame1 fun sa => ?_
  simp only [lToCore_ok n a sa (by omega), Option.bind_some, Co.eta_eq, lEqCore_ok n a a ha (by omega), Co.beq_refl]
  obtain ⟨k, nm, q, f, t, xs, e⟩ := a
  obtain ⟨o1, o2, o3, o4, o5, o6, o7⟩ := ha
  simp only [Co.m] at ma
  simp only [Co.sz] at sa
  have nf := Ty.nd_le f
  have hs : sIsBoxed n (.mk k nm q f t xs e) = some ((((k == 14) && f.ground) && Ty.beq t (.mk 1 [])) && ((xs.length : Int) == 1)) := by
    show ((gd (k == 14) (sIsGround n f.eta) false).bind fun x1 => (gd ((k == 14) && x1) (some (Ty.mk 1 [])) (UU.dflt 3)).bind fun x2 => (gd ((k == 14) && x1) (sEqualType n t.eta (Ty.eta x2)) false).bind fun x3 => some ((((k == 14) && x1) && x3) && ((xs.length : Int) == 1))) = _
    rw [Ty.eta_eq, sIsGround_ok n f o2 (by omega) (by omega)]
    cases (k == 14)
    · rfl
    · show ((gd (true && f.ground) (some (Ty.mk 1 [])) (UU.dflt 3)).bind fun x2 => (gd (true && f.ground) (sEqualType n t.eta (Ty.eta x2)) false).bind fun x3 => some (((true && f.ground) && x3) && ((xs.length : Int) == 1))) = _
      cases f.ground
      · rfl
      · show ((sEqualType n t.eta (Ty.eta (.mk 1 []))).bind fun x3 => some ((true && x3) && ((xs.length : Int) == 1))) = _
        rw [Ty.eta_eq, Ty.eta_eq, sEqualType_ok n t _ o3 (by omega)]
        rfl
  have hi : iIsBoxed n (.mk k nm q f t xs e) = some ((((k == 14) && f.ground) && Ty.beq t (.mk 1 [])) && ((xs.length : Int) == 1)) := by
    show ((gd ((k == 14) && ((xs.length : Int) == 1)) (iIsGround n f.eta) false).bind fun x1 => (gd (((k == 14) && ((xs.length : Int) == 1)) && x1) (some (Ty.mk 1 [])) (UU.dflt 3)).bind fun x2 => (gd (((k == 14) && ((xs.length : Int) == 1)) && x1) (iEqualType n t.eta (Ty.eta x2)) false).bind fun x3 => some ((((k == 14) && ((xs.length : Int) == 1)) && x1) && x3)) = _
    rw [Ty.eta_eq, iIsGround_ok n f o2 (by omega) (by omega)]
    cases (k == 14)
    · rfl
    · cases ((xs.length : Int) == 1)
      · cases f.ground <;> cases Ty.beq t (.mk 1 []) <;> rfl
      · show ((gd (true && f.ground) (some (Ty.mk 1 [])) (UU.dflt 3)).bind fun x2 => (gd (true && f.ground) (iEqualType n t.eta (Ty.eta x2)) false).bind fun x3 => some ((true && f.ground) && x3)) = _
        cases f.ground
        · rfl
        · show ((iEqualType n t.eta (Ty.eta (.mk 1 []))).bind fun x3 => some (true && x3)) = _
          rw [Ty.eta_eq, Ty.eta_eq, iEqualType_ok n t _ o3 (by omega)]
          cases Ty.beq t (.mk 1 []) <;> rfl
  rw [hs, hi, Option.bind_some, Option.bind_some]
  cases (((k == 14) && f.ground) && Ty.beq t (.mk 1 [])) && ((xs.length : Int) == 1) <;> rfl
end Go.Proofs.Ytbbncbojkkackaa
namespace Go.Tx
open Go.Pu
def nameX (x : Int) (K : Bool) : Bool := !((!((decide (x ≥ 97)) && (decide (x ≤ 122)))) && ((K || (decide (x < 48))) || (decide (x > 57))))
/-- The byte at a place may stand there in a name. -/
def nameC (s : ByteArray) (k : Nat) : Bool := nameX ((byteT s (k : Int)).getD 0) ((k : Int) == 0)
def nameF (s : ByteArray) : Bool := ((((decide ((s.size : Int) ≥ 1)) && (decide ((s.size : Int) ≤ 5))) && (!(seqT s (⟨#[105, 102]⟩ : ByteArray)))) && (!(seqT s (⟨#[102, 115, 116]⟩ : ByteArray)))) && (!(seqT s (⟨#[115, 110, 100]⟩ : ByteArray)))
def nameB (s : ByteArray) : Bool := allK (nameC s) s.size 0 && nameF s
theorem name_step (s : ByteArray) (k : Nat) (h : k < s.size) (A B : Option Bool) :
    (bif (decide ((k : Int) < (s.size : Int))) then (byteT s k).bind fun x1 =>
      (gd (decide (x1 ≥ 97)) (byteT s k) 0).bind fun x2 =>
      (gd ((!((decide (x1 ≥ 97)) && (decide (x2 ≤ 122)))) && (!((k : Int) == 0))) (byteT s k) 0).bind fun x3 =>
      (gd ((!((decide (x1 ≥ 97)) && (decide (x2 ≤ 122)))) && (!(((k : Int) == 0) || (decide (x3 < 48))))) (byteT s k) 0).bind fun x4 =>
      bif ((!((decide (x1 ≥ 97)) && (decide (x2 ≤ 122)))) && ((((k : Int) == 0) || (decide (x3 < 48))) || (decide (x4 > 57)))) then some false else A else B) = bif nameC s k then A else some false := by
  obtain ⟨x, hx⟩ := byteT_at s k h
  unfold nameC
  rw [dec_lt h, cond_true, hx, Option.bind_some, Option.getD_some]
  unfold nameX
  generalize ((k : Int) == 0) = K
  cases hA : decide (x ≥ 97)
  · show ((gd (true && !K) (some x) 0).bind fun x3 => (gd (true && (!(K || (decide (x3 < 48))))) (some x) 0).bind fun x4 => bif (true && ((K || (decide (x3 < 48))) || (decide (x4 > 57)))) then some false else A) = _
    cases K
    · show ((gd (true && (!(false || (decide (x < 48))))) (some x) 0).bind fun x4 => bif (true && ((false || (decide (x < 48))) || (decide (x4 > 57)))) then some false else A) = _
      cases decide (x < 48)
      · show (bif (true && ((false || false) || (decide (x > 57)))) then some false else A) = _
        cases decide (x > 57) <;> cases decide (x ≤ 122) <;> rfl
      · cases decide (x > 57) <;> cases decide (x ≤ 122) <;> rfl
    · cases decide (x > 57) <;> cases decide (x ≤ 122) <;> cases decide (x < 48) <;> rfl
  · show ((gd ((!(true && (decide (x ≤ 122)))) && (!K)) (some x) 0).bind fun x3 => (gd ((!(true && (decide (x ≤ 122)))) && (!(K || (decide (x3 < 48))))) (some x) 0).bind fun x4 => bif ((!(true && (decide (x ≤ 122)))) && ((K || (decide (x3 < 48))) || (decide (x4 > 57)))) then some false else A) = _
    cases decide (x ≤ 122)
    · cases K
      · show ((gd (true && (!(false || (decide (x < 48))))) (some x) 0).bind fun x4 => bif (true && ((false || (decide (x < 48))) || (decide (x4 > 57)))) then some false else A) = _
        cases decide (x < 48)
        · show (bif (true && ((false || false) || (decide (x > 57)))) then some false else A) = _
          cases decide (x > 57) <;> rfl
        · cases decide (x > 57) <;> rfl
      · cases decide (x > 57) <;> cases decide (x < 48) <;> rfl
    · cases K <;> cases decide (x < 48) <;> cases decide (x > 57) <;> rfl
def Ac.sz (a : Ac) : Nat := a.name.size + a.ty.sz
def Ac.beq (x y : Ac) : Bool := (x.kind == y.kind) && seqT x.name y.name && (x.n == y.n) && Ty.beq x.ty y.ty
theorem Ac.beq_refl (x : Ac) : Ac.beq x x = true := by simp [Ac.beq, seqT_refl, Ty.beq_refl]
end Go.Tx
namespace Go.Proofs.Ytbbncbojkkackaa
open Go.Tx Go.Pu
theorem sIsName_ok (n : Nat) (s : ByteArray) (hs : s.size ≤ 9223372036854775807) (hn : s.size < n) : sIsName n s = some (nameB s) := by
  show sIsName.l2 n n s 0 = _
  rw [idx_loop s.size hs (nameC s) false (fun m k => sIsName.l2 n m s k) (some (nameF s)) (fun m k hk => name_step s k hk _ _) (fun m => ?_) n hn]
  · unfold nameB
    cases allK (nameC s) s.size 0 <;> rfl
  · show (bif decide ((s.size : Int) < (s.size : Int)) then _ else some (nameF s)) = _
    rw [dec_nlt]; rfl
theorem iIsName_ok (n : Nat) (s : ByteArray) (hs : s.size ≤ 9223372036854775807) (hn : s.size < n) : iIsName n s = some (nameB s) := by
  show iIsName.l2 n n s 0 = _
  rw [idx_loop s.size hs (nameC s) false (fun m k => iIsName.l2 n m s k) (some (nameF s)) (fun m k hk => name_step s k hk _ _) (fun m => ?_) n hn]
  · unfold nameB
    cases allK (nameC s) s.size 0 <;> rfl
  · show (bif decide ((s.size : Int) < (s.size : Int)) then _ else some (nameF s)) = _
    rw [dec_nlt]; rfl
theorem sIsNote_ok (n : Nat) (t : Ty) (ok : t.ok) (hs : t.nd ≤ 2000000) (hm : 2 * t.m ≤ n) : sIsNote n t = some t.note := by
  show ((sIsValidType n t.eta).bind fun x1 => (gd x1 (sSizeOfType n t.eta) 0).bind fun x2 => (gd (x1 && (decide (x2 ≤ ((15 : Nat) : Int)))) (sDepthOfType n t.eta) 0).bind fun x3 => some ((x1 && (decide (x2 ≤ ((15 : Nat) : Int)))) && (decide (x3 ≤ ((5 : Nat) : Int))))) = _
  rw [Ty.eta_eq, sIsValidType_ok n t ok hs hm, sSizeOfType_ok n t ok (by omega) (by omega), sDepthOfType_ok n t ok (by omega) (by omega), Option.bind_some]
  unfold Ty.note
  cases t.valid
  · rfl
  · show ((gd (true && (decide ((t.nd : Int) ≤ ((15 : Nat) : Int)))) (some (t.dp : Int)) 0).bind fun x3 => some ((true && (decide ((t.nd : Int) ≤ ((15 : Nat) : Int)))) && (decide (x3 ≤ ((5 : Nat) : Int))))) = _
    rw [dec_cast]
    cases decide (t.nd ≤ 15)
    · rfl
    · show some (true && (decide ((t.dp : Int) ≤ ((5 : Nat) : Int)))) = _
      rw [dec_cast]
      rfl
theorem iIsNote_ok (n : Nat) (t : Ty) (ok : t.ok) (hs : t.nd ≤ 2000000) (hm : 2 * t.m ≤ n) : iIsNote n t = some t.note := by
  show ((iIsValidType n t.eta).bind fun x1 => (gd x1 (iSizeOfType n t.eta) 0).bind fun x2 => (gd (x1 && (decide (x2 ≤ ((15 : Nat) : Int)))) (iDepthOfType n t.eta) 0).bind fun x3 => some ((x1 && (decide (x2 ≤ ((15 : Nat) : Int)))) && (decide (x3 ≤ ((5 : Nat) : Int))))) = _
  rw [Ty.eta_eq, iIsValidType_ok n t ok hs hm, iSizeOfType_ok n t ok (by omega) (by omega), iDepthOfType_ok n t ok (by omega) (by omega), Option.bind_some]
  unfold Ty.note
  cases t.valid
  · rfl
  · show ((gd (true && (decide ((t.nd : Int) ≤ ((15 : Nat) : Int)))) (some (t.dp : Int)) 0).bind fun x3 => some ((true && (decide ((t.nd : Int) ≤ ((15 : Nat) : Int)))) && (decide (x3 ≤ ((5 : Nat) : Int))))) = _
    rw [dec_cast]
    cases decide (t.nd ≤ 15)
    · rfl
    · show some (true && (decide ((t.dp : Int) ≤ ((5 : Nat) : Int)))) = _
      rw [dec_cast]
      rfl
def mostB (k : Int) : Int := bif (k == 2) then 2 else bif (k == 18) then 2 else bif (k == 7) then 999 else bif (k == 8) then 1 else -1
theorem sL15Most_ok (n : Nat) (k : Int) : sL15Most n k = some (mostB k) := by
  show (bif (k == 2) then some 2 else bif (k == 18) then some 2 else bif (k == 7) then some 999 else bif (k == 8) then some 1 else some (-1)) = _
  unfold mostB
  cases (k == 2) <;> cases (k == 18) <;> cases (k == 7) <;> cases (k == 8) <;> rfl
theorem iMostOf_ok (n : Nat) (k : Int) : iMostOf n k = some (mostB k) := by
  show (bif (k == 2) then some 2 else bif (k == 18) then some 2 else bif (k == 7) then some 999 else bif (k == 8) then some 1 else some (-1)) = _
  unfold mostB
  cases (k == 2) <;> cases (k == 18) <;> cases (k == 7) <;> cases (k == 8) <;> rfl
theorem name_ne {s : ByteArray} (h : nameB s = true) : seqT s ⟨#[]⟩ = false := by
  unfold nameB nameF at h
  simp only [Bool.and_eq_true, decide_eq_true_eq] at h
  have h1 : (s.size : Int) ≥ 1 := h.2.1.1.1.1
  cases hs : seqT s ⟨#[]⟩
  · rfl
  · unfold seqT at hs
    simp only [beq_iff_eq, ByteArray.toList_eq] at hs
    have h3 : s.size = s.data.toList.length := (Array.length_toList).symm
    rw [hs] at h3
    have h4 : s.size = 0 := h3
    omega
theorem note_ne {t : Ty} (h : t.note = true) : Ty.beq t (.mk 0 []) = false := by
  unfold Ty.note Ty.valid at h
  simp only [Bool.and_eq_true] at h
  have h1 := fm_kind h.1.1.2
  obtain ⟨k, a⟩ := t
  simp only [Ty.kind, bne_iff_ne] at h1
  simp [Ty.beq, h1]
theorem zero_ty (t : Ty) : ((t.kind != 0) || (decide ((t.args.length : Int) > 0))) = !(Ty.beq t (.mk 0 [])) := by
  obtain ⟨k, a⟩ := t
  show ((!(k == 0)) || (decide ((a.length : Int) > 0))) = !(Ty.beq (.mk k a) (.mk 0 []))
  simp only [Ty.beq]
  cases a with
  | nil => cases (k == 0) <;> rfl
  | cons x r =>
    have h : decide (((x :: r).length : Int) > 0) = true := by simp
    rw [h]
    simp only [Ty.beqs]
    cases (k == 0) <;> rfl
theorem lSzAction_ok (n : Nat) (t : Ac) (ok : t.ok) (hm : t.ty.m ≤ n) (l : Int) (h0 : 0 ≤ l) (h1 : l ≤ 1048576) : lSzAction n t l = some (szR t.sz l) := by
  obtain ⟨k, nm, q, t⟩ := t
  obtain ⟨o1, o2⟩ := ok
  have o1 : nm.size ≤ 9223372036854775807 := o1
  have hm : t.m ≤ n := hm
  show (bif (decide ((w64 (l - (nm.size : Int))) < 0)) then some (-1) else (lSzType n t.eta (w64 (l - (nm.size : Int)))).bind fun x1 => bif (decide (x1 < 0)) then some (-1) else some x1) = _
  refine sz_str o1 h0 h1 fun hs => ?_
  have hs : (nm.size : Int) ≤ l := hs
  rw [w64_id (by omega) (by omega), Ty.eta_eq, lSzType_ok n t o2 hm _ (by omega) (by omega), Option.bind_some, szR_fix]
theorem lToAction_ok (n : Nat) (t : Ac) (hs : t.sz ≤ 1048576) (hm : t.ty.m ≤ n) : lToAction n t = some t := by
  obtain ⟨k, nm, q, t⟩ := t
  simp only [Ac.sz] at hs
  show ((lToType n t.eta).bind fun x1 => some (Ac.mk k nm q x1.eta)) = _
  rw [Ty.eta_eq, lToType_ok n t (by omega) hm, Option.bind_some, Ty.eta_eq]
theorem lEqAction_ok (n : Nat) (t u : Ac) (ok : t.ok) (hm : t.ty.m ≤ n) : lEqAction n t u = some (Ac.beq t u) := by
  obtain ⟨k, nm, q, t⟩ := t
  obtain ⟨k', nm', q', t'⟩ := u
  obtain ⟨o1, o2⟩ := ok
  show (bif (k != k') then some false else bif (!(seqT nm nm')) then some false else bif (q != q') then some false else (lEqType n t.eta t'.eta).bind fun x1 => bif (!x1) then some false else some true) = _
  rw [Ty.eta_eq, Ty.eta_eq, lEqType_ok n t t' o2 hm]
  simp only [Ac.beq, bne_int]
  cases (k == k') <;> cases seqT nm nm' <;> cases (q == q') <;> cases Ty.beq t t' <;> rfl
def namedB (k : Int) : Bool := ((k == 6) || (k == 9)) || (k == 20)
def typedB (k : Int) : Bool := ((k == 9) || (k == 17)) || (k == 19)
theorem sIsAction_ok (n : Nat) (a : Ac) (ok : a.ok) (hs : a.ty.nd ≤ 2000000) (hm : 2 * a.ty.m ≤ n) (hn : a.name.size < n) :
    sIsAction n a = some (decide (a.kind ≥ 1) && decide (a.kind ≤ 20) && (namedB a.kind == nameB a.name) && (namedB a.kind || seqT a.name ⟨#[]⟩) && (typedB a.kind == a.ty.note) && (typedB a.kind || Ty.beq a.ty (.mk 0 [])) && (decide (a.n ≥ 0) && decide (a.n ≤ max 0 (mostB a.kind)))) := by
  obtain ⟨k, nm, q, t⟩ := a
  obtain ⟨o1, o2⟩ := ok
  have o1 : nm.size ≤ 9223372036854775807 := o1
  have hs : t.nd ≤ 2000000 := hs
  have hm : 2 * t.m ≤ n := hm
  show ((some ((decide (k ≥ 1)) && (decide (k ≤ 20)))).bind fun x1 => (gd (!(!x1)) (some (namedB k)) false).bind fun x2 => (gd (!(!x1)) (sIsName n nm) false).bind fun x3 => (gd (!((!x1) || (!(x2 == x3)))) (some (namedB k)) false).bind fun x4 =>
    bif (((!x1) || (!(x2 == x3))) || ((!x4) && (!(seqT nm ⟨#[]⟩)))) then some false
    else (some (typedB k)).bind fun x5 => (sIsNote n t.eta).bind fun x6 => (gd (!(!(x5 == x6))) (some (typedB k)) false).bind fun x7 =>
    bif ((!(x5 == x6)) || ((!x7) && ((t.kind != 0) || (decide ((t.args.length : Int) > 0))))) then some false
    else (sL15Most n k).bind fun x8 => (sL1Max n 0 x8).bind fun x9 => (some ((decide (q ≥ 0)) && (decide (q ≤ x9)))).bind fun x10 => some x10) = _
  rw [sIsName_ok n nm o1 hn, Ty.eta_eq, sIsNote_ok n t o2 hs hm, zero_ty, sL15Most_ok]
  simp only [Option.bind_some, sL1Max_ok]
  generalize (decide (q ≥ 0) && decide (q ≤ max 0 (mostB k))) = Q
  generalize Ty.beq t (.mk 0 []) = Z
  generalize seqT nm ⟨#[]⟩ = E
  generalize nameB nm = V
  generalize t.note = W
  generalize namedB k = N
  generalize typedB k = T
  generalize (decide (k ≥ 1) && decide (k ≤ 20)) = P
  cases P
  · rfl
  cases N <;> cases V <;> try rfl
  all_goals cases E <;> try rfl
  all_goals cases T <;> cases W <;> cases Z <;> rfl
theorem iIsAction_ok (n : Nat) (a : Ac) (ok : a.ok) (hs : a.ty.nd ≤ 2000000) (hm : 2 * a.ty.m ≤ n) (hn : a.name.size < n) :
    iIsAction n a = some (decide (a.kind ≥ 1) && decide (a.kind ≤ 20) && (decide (a.n ≥ 0) && decide (a.n ≤ max 0 (mostB a.kind))) && (!(namedB a.kind && !(nameB a.name))) && (namedB a.kind || seqT a.name ⟨#[]⟩) && ((typedB a.kind && a.ty.note) || (!(typedB a.kind) && Ty.beq a.ty (.mk 0 [])))) := by
  obtain ⟨k, nm, q, t⟩ := a
  obtain ⟨o1, o2⟩ := ok
  have o1 : nm.size ≤ 9223372036854775807 := o1
  have hs : t.nd ≤ 2000000 := hs
  have hm : 2 * t.m ≤ n := hm
  show ((gd (!(((decide (k < 1)) || (decide (k > 20))) || (decide (q < 0)))) (iMostOf n k) 0).bind fun x1 => bif ((((decide (k < 1)) || (decide (k > 20))) || (decide (q < 0))) || (decide (q > (max 0 x1)))) then some false
    else (some (namedB k)).bind fun x2 => (gd x2 (iIsName n nm) false).bind fun x3 => (gd (!(x2 && (!x3))) (some (namedB k)) false).bind fun x4 =>
    bif ((x2 && (!x3)) || ((!x4) && (!(seqT nm ⟨#[]⟩)))) then some false
    else (some (typedB k)).bind fun x5 => (gd x5 (iIsNote n t.eta) false).bind fun x6 => (gd (!(x5 && x6)) (some (typedB k)) false).bind fun x7 =>
    (gd ((!(x5 && x6)) && (!x7)) (iEqualType n t.eta (Ty.mk 0 [])) false).bind fun x8 => some ((x5 && x6) || ((!x7) && x8))) = _
  rw [iIsName_ok n nm o1 hn, Ty.eta_eq, iIsNote_ok n t o2 hs hm, iMostOf_ok, iEqualType_ok n t _ o2 (by omega)]
  have e1 : decide (k < 1) = !decide (k ≥ 1) := by rw [← decide_not]; congr 1; rw [eq_iff_iff]; omega
  have e2 : decide (k > 20) = !decide (k ≤ 20) := by rw [← decide_not]; congr 1; rw [eq_iff_iff]; omega
  have e3 : decide (q < 0) = !decide (q ≥ 0) := by rw [← decide_not]; congr 1; rw [eq_iff_iff]; omega
  have e4 : ∀ x : Int, decide (q > x) = !decide (q ≤ x) := by intro x; rw [← decide_not]; congr 1; rw [eq_iff_iff]; omega
  simp only [e1, e2, e3, e4]
  generalize Ty.beq t (.mk 0 []) = Z
  generalize seqT nm ⟨#[]⟩ = E
  generalize nameB nm = V
  generalize t.note = W
  generalize namedB k = N
  generalize typedB k = T
  generalize decide (k ≥ 1) = P1
  generalize decide (k ≤ 20) = P2
  generalize decide (q ≥ 0) = Q1
  cases P1
  · rfl
  cases P2
  · rfl
  cases Q1
  · rfl
  show (bif (false || !decide (q ≤ max 0 (mostB k))) then some false else _) = some (true && true && (true && decide (q ≤ max 0 (mostB k))) && _ && _ && _)
  cases decide (q ≤ max 0 (mostB k))
  · rfl
  cases N <;> cases V <;> try rfl
  all_goals cases E <;> try rfl
  all_goals cases T <;> cases W <;> cases Z <;> rfl
theorem lFnExactIsAction_ok (a : Ac) (ha : a.ok) : ∃ n, lFnExactIsAction n a = some true := by
  obtain ⟨n, ma⟩ : ∃ n, 2 * a.ty.m + a.name.size + 1 ≤ n := ⟨_, Nat.le_refl _⟩
  refine ⟨n, ?_⟩
  show lFnExactIsAction.s n a = some true
  unfold lFnExactIsAction.s
  simp only [Ac.eta_eq]
  rw [lSzAction_ok n a ha (by omega) _ (by omega) (by omega)]
  refine frame1 fun sa => ?_
  have hd : a.ty.nd ≤ 2000000 := by
    have := Ty.nd_le a.ty
    simp only [Ac.sz] at sa
    omega
  simp only [lToAction_ok n a sa (by omega), Option.bind_some, Ac.eta_eq, lEqAction_ok n a a ha (by omega), Ac.beq_refl, sIsAction_ok n a ha hd (by omega) (by omega), iIsAction_ok n a ha hd (by omega) (by omega)]
  have h1 := @name_ne a.name
  have h2 := @note_ne a.ty
  generalize (decide (a.n ≥ 0) && decide (a.n ≤ max 0 (mostB a.kind))) = Q
  generalize Ty.beq a.ty (.mk 0 []) = Z at h2 ⊢
  generalize seqT a.name ⟨#[]⟩ = E at h1 ⊢
  generalize nameB a.name = V at h1 ⊢
  generalize a.ty.note = W at h2 ⊢
  generalize namedB a.kind = N
  generalize typedB a.kind = T
  generalize (decide (a.kind ≥ 1) && decide (a.kind ≤ 20)) = P
  revert P Q N T Z E V W
  decide
end Go.Proofs.Ytbbncbojkkackaa
