/- Sizes of core expressions, as both programs count them. -/
import Derived.Test.YtbbncbojkkackaaPuE
set_option linter.unusedVariables false
set_option linter.unusedSimpArgs false
namespace Go.Pu
open Go.Tx
/-- A loop that sums. -/
theorem sum_loop {α : Type} (nd : α → Nat) (xs : List α) (hx : xs.length ≤ 9223372036854775807) (L : Nat → Int → Int → Option Int) (g : α → Option Int) (fin : Nat → Int → Option Int) (hg : ∀ x ∈ xs, g x = some (nd x : Int))
    (h : ∀ m (k : Nat) (s : Int), k ≤ xs.length → L (m + 1) k s = bif decide ((k : Int) < (xs.length : Int)) then (nthT xs k).bind fun x => (g x).bind fun v => L m (w64 ((k : Int) + 1)) (w64 (s + v)) else fin m s) :
    ∀ m (s : Nat), xs.length < m → s + szE nd xs ≤ 9223372036854775807 → L m 0 s = fin (m - xs.length - 1) ((s + szE nd xs : Nat) : Int) := by
  have main : ∀ (d k m : Nat) (s : Nat), k + d = xs.length → d < m → s + szE nd (xs.drop k) ≤ 9223372036854775807 → L m k s = fin (m - d - 1) ((s + szE nd (xs.drop k) : Nat) : Int) := by
    intro d
    induction d with
    | zero =>
      intro k m s hk hm hs
      obtain ⟨m, rfl⟩ : ∃ q, m = q + 1 := ⟨m - 1, by omega⟩
      rw [h m k s (by omega)]
      have : decide ((k : Int) < (xs.length : Int)) = false := by simp; omega
      rw [this, List.drop_eq_nil_of_le (by omega)]
      rfl
    | succ d ih =>
      intro k m s hk hm hs
      obtain ⟨m, rfl⟩ : ∃ q, m = q + 1 := ⟨m - 1, by omega⟩
      rw [h m k s (by omega)]
      have hlt : k < xs.length := by omega
      have : decide ((k : Int) < (xs.length : Int)) = true := by simp; omega
      have e : w64 ((k : Int) + 1) = ((k + 1 : Nat) : Int) := by rw [w64_id (by omega) (by omega)]; rfl
      rw [List.drop_eq_getElem_cons hlt] at hs ⊢
      simp only [szE] at hs ⊢
      rw [this, cond_true, nthT_nat, List.getElem?_eq_getElem hlt, Option.bind_some, hg _ (List.getElem_mem hlt), Option.bind_some, e, w64_id (by omega) (by omega)]
      have e2 : (s : Int) + (nd xs[k] : Int) = ((s + nd xs[k] : Nat) : Int) := by simp
      rw [e2, ih (k + 1) m _ (by omega) (by omega) (by omega), show m + 1 - (d + 1) - 1 = m - d - 1 by omega, Nat.add_assoc]
  intro m s hm hs
  have := main xs.length 0 m s (by omega) hm (by simpa using hs)
  simpa using this
end Go.Pu
namespace Go.Tx
open Go.Pu
mutual
def Co.nd : Co → Nat
  | .mk _ _ _ _ _ a e => 1 + Co.ndL a + Co.ndE e
def Co.ndL : List Co → Nat
  | [] => 0
  | x :: r => Co.nd x + Co.ndL r
def Co.ndE : List (ByteArray × Co) → Nat
  | [] => 0
  | x :: r => Co.ndP x + Co.ndE r
def Co.ndP : ByteArray × Co → Nat
  | (_, c) => Co.nd c
end
theorem Co.ndL_eq (l : List Co) : Co.ndL l = Go.Pu.szE Co.nd l := by
  induction l with
  | nil => rfl
  | cons x r ih => simp only [Co.ndL, Go.Pu.szE, ih]
theorem Co.ndE_eq (l : List Bi) : Co.ndE l = Go.Pu.szE (fun b => Co.nd b.2) l := by
  induction l with
  | nil => rfl
  | cons x r ih => obtain ⟨n, c⟩ := x; simp only [Co.ndE, Go.Pu.szE, ih, Co.ndP]
mutual
theorem Co.nd_le : ∀ t : Co, t.nd ≤ 1 + t.sz
  | .mk k nm n f t a e => by
    simp only [Co.nd, Co.sz]
    have := Co.ndL_le a
    have := Co.ndE_le e
    omega
theorem Co.ndL_le : ∀ l : List Co, Co.ndL l ≤ Co.szs l
  | [] => by simp [Co.ndL]
  | x :: r => by
    simp only [Co.ndL, Co.szs]
    have := Co.nd_le x
    have := Co.ndL_le r
    omega
theorem Co.ndE_le : ∀ l : List (ByteArray × Co), Co.ndE l ≤ Co.szE l
  | [] => by simp [Co.ndE]
  | x :: r => by
    simp only [Co.ndE, Co.szE]
    have := Co.ndP_le x
    have := Co.ndE_le r
    omega
theorem Co.ndP_le : ∀ l : ByteArray × Co, Co.ndP l ≤ 1 + Co.szP l
  | (n, c) => by
    simp only [Co.ndP, Co.szP]
    have := Co.nd_le c
    omega
end
end Go.Tx
namespace Go.Proofs.Ytbbncbojkkackaa
open Go.Tx Go.Pu
theorem sSizeOfCore_ok : ∀ (n : Nat) (d : Co), d.ok → d.nd ≤ 9223372036854775807 → d.m ≤ n → sSizeOfCore n d = some (d.nd : Int) := by
  intro n
  induction n using Nat.strongRecOn with
  | ind n ih =>
    rintro ⟨k, nm, q, ⟨tk, ta⟩, ⟨uk, ua⟩, a, e⟩ ⟨o1, o2, o3, o4, o5, o6, o7⟩ hs hm
    simp only [Co.m] at hm
    simp only [Co.nd] at hs
    rw [Co.ndL_eq, Co.ndE_eq] at hs
    have hl := Co.mL_len a
    have hl2 := Co.mE_len e
    have one : ∀ {α : Type} (nd : α → Nat) (l : List α) x, x ∈ l → nd x ≤ szE nd l := by
      intro α nd l x hx
      induction l with
      | nil => cases hx
      | cons y r ih =>
        simp only [szE]
        rcases List.mem_cons.1 hx with rfl | hx
        · omega
        · have := ih hx; omega
    obtain ⟨n, rfl⟩ : ∃ q, n = q + 1 := ⟨n - 1, by omega⟩
    show sSizeOfCore.l3 n (sSizeOfCore n) n ((1 : Nat) : Int) 0 (Co.mk k nm q (.mk tk ta) (.mk uk ua) a e) = _
    rw [sum_loop Co.nd a o4 (fun m k s => sSizeOfCore.l3 n (sSizeOfCore n) m s k (Co.mk _ nm q (.mk tk ta) (.mk uk ua) a e)) (fun x => sSizeOfCore n x.eta) (fun m s => sSizeOfCore.l7 n (sSizeOfCore n) m s 0 (Co.mk k nm q (.mk tk ta) (.mk uk ua) a e))
      (fun x hx => by rw [Co.eta_eq]; exact ih n (by omega) x (Co.oks_iff.1 o5 x hx) (by have := one Co.nd a x hx; omega) (by have := Co.mL_mem hx; omega)) (fun m k s hk => rfl) n 1 (by omega) (by omega)]
    rw [sum_loop (fun b : Bi => Co.nd b.2) e o6 (fun m j s => sSizeOfCore.l7 n (sSizeOfCore n) m s j (Co.mk k nm q (.mk tk ta) (.mk uk ua) a e)) (fun x => sSizeOfCore n x.2.eta) (fun m s => some s)
      (fun x hx => by rw [Co.eta_eq]; exact ih n (by omega) x.2 (Co.okE_iff.1 o7 x hx).2 (by have := one (fun b : Bi => Co.nd b.2) e x hx; omega) (by have := Co.mE_mem hx; simp only [Bi.m] at this; omega)) (fun m k s hk => rfl) _ _ (by omega) (by omega)]
    simp only [Co.nd]
    rw [Co.ndL_eq, Co.ndE_eq]
theorem iSizeOfCore_ok : ∀ (n : Nat) (d : Co), d.ok → d.nd ≤ 9223372036854775807 → d.m ≤ n → iSizeOfCore n d = some (d.nd : Int) := by
  intro n
  induction n using Nat.strongRecOn with
  | ind n ih =>
    rintro ⟨k, nm, q, ⟨tk, ta⟩, ⟨uk, ua⟩, a, e⟩ ⟨o1, o2, o3, o4, o5, o6, o7⟩ hs hm
    simp only [Co.m] at hm
    simp only [Co.nd] at hs
    rw [Co.ndL_eq, Co.ndE_eq] at hs
    have hl := Co.mL_len a
    have hl2 := Co.mE_len e
    have one : ∀ {α : Type} (nd : α → Nat) (l : List α) x, x ∈ l → nd x ≤ szE nd l := by
      intro α nd l x hx
      induction l with
      | nil => cases hx
      | cons y r ih =>
        simp only [szE]
        rcases List.mem_cons.1 hx with rfl | hx
        · omega
        · have := ih hx; omega
    obtain ⟨n, rfl⟩ : ∃ q, n = q + 1 := ⟨n - 1, by omega⟩
    show iSizeOfCore.l3 n (iSizeOfCore n) n ((1 : Nat) : Int) a (a.length : Int) 0 (Co.mk k nm q (.mk tk ta) (.mk uk ua) a e) = _
    rw [sum_loop Co.nd a o4 (fun m j s => iSizeOfCore.l3 n (iSizeOfCore n) m s a (a.length : Int) j (Co.mk k nm q (.mk tk ta) (.mk uk ua) a e)) (fun x => iSizeOfCore n x.eta) (fun m s => iSizeOfCore.l8 n (iSizeOfCore n) m s e (e.length : Int) 0)
      (fun x hx => by rw [Co.eta_eq]; exact ih n (by omega) x (Co.oks_iff.1 o5 x hx) (by have := one Co.nd a x hx; omega) (by have := Co.mL_mem hx; omega)) (fun m k s hk => rfl) n 1 (by omega) (by omega)]
    rw [sum_loop (fun b : Bi => Co.nd b.2) e o6 (fun m j s => iSizeOfCore.l8 n (iSizeOfCore n) m s e (e.length : Int) j) (fun x => iSizeOfCore n x.2.eta) (fun m s => some s)
      (fun x hx => by rw [Co.eta_eq]; exact ih n (by omega) x.2 (Co.okE_iff.1 o7 x hx).2 (by have := one (fun b : Bi => Co.nd b.2) e x hx; omega) (by have := Co.mE_mem hx; simp only [Bi.m] at this; omega)) (fun m k s hk => rfl) _ _ (by omega) (by omega)]
    simp only [Co.nd]
    rw [Co.ndL_eq, Co.ndE_eq]

/-- The frame of a law over a core expression whose result is a number or a boolean. -/
theorem szR_cases (s : Nat) (l : Int) (h0 : 0 ≤ l) : (decide (szR s l < 0) = true ∧ ¬ (s : Int) ≤ l) ∨ (decide (szR s l < 0) = false ∧ (s : Int) ≤ l ∧ szR s l = l - s) := by
  unfold szR
  split
  · right; simp; omega
  · left; simp; omega

theorem lFnExactSizeOfCore_ok (a : Co) (ha : a.ok) : ∃ n, lFnExactSizeOfCore n a = some true := by
  refine ⟨a.m, ?_⟩
  show ((lSzCore a.m a.eta 1048576).bind fun x1 => bif (decide (x1 < 0)) then some true else (lToCore a.m a.eta).bind fun x2 => (sSizeOfCore a.m x2.eta).bind fun x3 => (lToCore a.m a.eta).bind fun x4 => (iSizeOfCore a.m x4.eta).bind fun x5 =>
    bif (x5 != x3) then some false else (lToCore a.m a.eta).bind fun x6 => (lEqCore a.m x4.eta x6.eta).bind fun x7 => bif (!x7) then some false else some true) = _
  simp only [Co.eta_eq]
  rw [lSzCore_ok _ a ha (Nat.le_refl _) _ (by omega) (by omega), Option.bind_some]
  rcases szR_cases a.sz 1048576 (by omega) with ⟨h1, h2⟩ | ⟨h1, h2, h3⟩
  · rw [h1]; rfl
  · have hnd := Co.nd_le a
    rw [h1, cond_false, lToCore_ok _ a (by omega) (Nat.le_refl _)]
    simp only [Option.bind_some, Co.eta_eq]
    rw [sSizeOfCore_ok _ a ha (by omega) (Nat.le_refl _), iSizeOfCore_ok _ a ha (by omega) (Nat.le_refl _), lEqCore_ok _ a a ha (Nat.le_refl _), Co.beq_refl]
    simp
end Go.Proofs.Ytbbncbojkkackaa
