/- The law of answers: what it computes is true. -/
import Derived.Test.YtbbncbojkkackaaPuY
set_option linter.unusedVariables false
set_option linter.unusedSimpArgs false
namespace Go.Tx
open Go.Pu
mutual
/-- An answer: numbers and booleans, and pairs of answers. -/
def Co.an : Co → Bool
  | .mk k _ _ _ _ a _ => bif (k == 11) && ((a.length : Int) == 2) then Co.anL a else (k == 6) || (k == 9)
def Co.anL : List Co → Bool
  | [] => true
  | x :: r => Co.an x && Co.anL r
end
theorem two_of {α : Type} {l : List α} (h : ((l.length : Int) == 2) = true) : ∃ x y, l = [x, y] := by
  simp only [beq_iff_eq] at h
  match l, h with
  | [x, y], _ => exact ⟨x, y, rfl⟩
  | [], h => simp at h
  | [_], h => simp at h
  | _ :: _ :: _ :: _, h => simp only [List.length_cons] at h; omega
end Go.Tx
namespace Go.Proofs.Ytbbncbojkkackaa
open Go.Tx Go.Pu
theorem sL24Answer_ok : ∀ (n : Nat) (d : Co), d.m ≤ n → sL24Answer n d = some d.an := by
  intro n
  induction n using Nat.strongRecOn with
  | ind n ih =>
    rintro ⟨k, nm, q, f, t, a, e⟩ hm
    simp only [Co.m] at hm
    obtain ⟨n, rfl⟩ : ∃ q, n = q + 1 := ⟨n - 1, by omega⟩
    show (bif ((k == 11) && ((a.length : Int) == 2)) then (nthT a 0).bind fun x1 => (sL24Answer n x1.eta).bind fun x2 => (gd x2 (nthT a 1) (UU.dflt 5)).bind fun x3 => (gd x2 (sL24Answer n (Co.eta x3)) false).bind fun x4 => some (x2 && x4) else some ((k == 6) || (k == 9))) = _
    simp only [Co.an]
    cases h : (k == 11) && ((a.length : Int) == 2)
    · rfl
    · simp only [Bool.and_eq_true] at h
      obtain ⟨x, y, rfl⟩ := two_of h.2
      simp only [Co.mL] at hm
      show ((sL24Answer n x.eta).bind fun x2 => (gd x2 (some y) (UU.dflt 5)).bind fun x3 => (gd x2 (sL24Answer n (Co.eta x3)) false).bind fun x4 => some (x2 && x4)) = some (Co.an x && (Co.an y && true))
      rw [Co.eta_eq, ih n (by omega) x (by omega), Option.bind_some]
      cases Co.an x
      · rfl
      · show ((sL24Answer n y.eta).bind fun x4 => some (true && x4)) = _
        rw [Co.eta_eq, ih n (by omega) y (by omega)]
        cases Co.an y <;> rfl
theorem iIsAnswer_2_ok : ∀ (n : Nat) (d : Co), d.fm = true → d.m ≤ n → iIsAnswer_2 n d = some d.an := by
  intro n
  induction n using Nat.strongRecOn with
  | ind n ih =>
    rintro ⟨k, nm, q, f, t, a, e⟩ hf hm
    simp only [Co.m] at hm
    simp only [Co.fm, Bool.and_eq_true] at hf
    obtain ⟨⟨⟨⟨hfl, _⟩, _⟩, _⟩, har⟩ := hf
    obtain ⟨n, rfl⟩ : ∃ q, n = q + 1 := ⟨n - 1, by omega⟩
    show ((gd ((!((k == 6) || (k == 9))) && (k == 11)) (nthT a 0) (UU.dflt 5)).bind fun x1 => (gd ((!((k == 6) || (k == 9))) && (k == 11)) (iIsAnswer_2 n (Co.eta x1)) false).bind fun x2 =>
      (gd ((!((k == 6) || (k == 9))) && ((k == 11) && x2)) (nthT a 1) (UU.dflt 5)).bind fun x3 => (gd ((!((k == 6) || (k == 9))) && ((k == 11) && x2)) (iIsAnswer_2 n (Co.eta x3)) false).bind fun x4 =>
      some (((k == 6) || (k == 9)) || (((k == 11) && x2) && x4))) = _
    simp only [Co.an]
    by_cases h : k = 11
    · subst h
      obtain ⟨x, y, rfl⟩ := two_of (l := a) har
      simp only [Co.mL] at hm
      simp only [Co.fmL, Bool.and_eq_true] at hfl
      show ((iIsAnswer_2 n x.eta).bind fun x2 => (gd (true && (true && x2)) (some y) (UU.dflt 5)).bind fun x3 => (gd (true && (true && x2)) (iIsAnswer_2 n (Co.eta x3)) false).bind fun x4 => some (false || ((true && x2) && x4))) = some (Co.an x && (Co.an y && true))
      rw [Co.eta_eq, ih n (by omega) x hfl.1 (by omega), Option.bind_some]
      cases Co.an x
      · rfl
      · show ((iIsAnswer_2 n y.eta).bind fun x4 => some (false || ((true && true) && x4))) = _
        rw [Co.eta_eq, ih n (by omega) y hfl.2.1 (by omega)]
        cases Co.an y <;> rfl
    · have : (k == 11) = false := by simp [h]
      rw [this, Bool.and_false]
      cases ((k == 6) || (k == 9)) <;> rfl
theorem lFnExactIsAnswer_ok (a : Co) (ha : a.ok) : ∃ n, lFnExactIsAnswer n a = some true := by
  obtain ⟨n, ma⟩ : ∃ n, 2 * a.m + 1048600 ≤ n := ⟨_, Nat.le_refl _⟩
  refine ⟨n, ?_⟩
  show lFnExactIsAnswer.s n a = some true
  unfold lFnExactIsAnswer.s
  simp only [Co.eta_eq]
  rw [lSzCore_ok n a ha (by omega) _ (by omega) (by omega)]
  refine frame1 fun sa => ?_
  have hs : sIsAnswer n a = some (coreB a && a.an) := by
    show ((sIsCore n a.eta).bind fun x1 => (gd x1 (sL24Answer n a.eta) false).bind fun x2 => some (x1 && x2)) = _
    rw [Co.eta_eq, sIsCore_ok n a ha sa ma, sL24Answer_ok n a (by omega)]
    cases coreB a <;> cases a.an <;> rfl
  have hi : iIsAnswer n a = some (coreB a && a.an) := by
    show ((iIsCore n a.eta).bind fun x1 => (gd x1 (iIsAnswer_2 n a.eta) false).bind fun x2 => some (x1 && x2)) = _
    rw [Co.eta_eq, iIsCore_ok n a ha sa ma, Option.bind_some]
    cases hc : coreB a
    · rfl
    · have hf : a.fm = true := by
        unfold coreB at hc
        simp only [Bool.and_eq_true] at hc
        exact hc.2
      show ((iIsAnswer_2 n a).bind fun x2 => some (true && x2)) = _
      rw [iIsAnswer_2_ok n a hf (by omega)]
      rfl
  simp only [lToCore_ok n a sa (by omega), Option.bind_some, Co.eta_eq, lEqCore_ok n a a ha (by omega), Co.beq_refl, hs, hi]
  cases coreB a && a.an <;> rfl
end Go.Proofs.Ytbbncbojkkackaa
