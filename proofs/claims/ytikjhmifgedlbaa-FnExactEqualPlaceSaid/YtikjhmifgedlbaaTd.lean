/- Types, joined: equality, size and copies of a type, for every type. -/
import Derived.Test.YtikjhmifgedlbaaTc
set_option linter.unusedSimpArgs false
set_option linter.unusedVariables false
namespace Go.Proofs.Ytikjhmifgedlbaa
open Go.Ax

mutual
def Ty.ok : Ty → Prop
  | .mk _ xs => xs.length ≤ 9223372036854775807 ∧ Ty.okL xs
def Ty.okL : List Ty → Prop
  | [] => True
  | x :: r => Ty.ok x ∧ Ty.okL r
end
theorem Ty.okL_mem {xs : List Ty} (h : Ty.okL xs) : ∀ x ∈ xs, Ty.ok x := by
  induction xs with
  | nil => simp
  | cons a r ih =>
    intro x hx
    rcases List.mem_cons.1 hx with e | e
    · exact e ▸ h.1
    · exact ih h.2 x e
theorem Ty.szL_len (xs : List Ty) : xs.length ≤ Ty.szL xs := by
  induction xs with
  | nil => simp [Ty.szL]
  | cons a r ih => simp [Ty.szL]; omega
theorem Ty.szL_mem {xs : List Ty} : ∀ x ∈ xs, Ty.sz x ≤ Ty.szL xs := by
  induction xs with
  | nil => simp
  | cons a r ih =>
    intro x hx
    rcases List.mem_cons.1 hx with e | e
    · subst e; simp [Ty.szL]; omega
    · have := ih x e; simp [Ty.szL]; omega
theorem Ty.beqL_refl {xs : List Ty} (h : ∀ x ∈ xs, Ty.beq x x = true) : Ty.beqL xs xs = true := by
  induction xs with
  | nil => rfl
  | cons a r ih => simp [Ty.beqL, h a (by simp), ih fun x hx => h x (by simp [hx])]
theorem Ty.beq_refl (t : Ty) : Ty.beq t t = true := by
  induction t using Ty.ind with
  | h k xs ih => simp [Ty.beq, Ty.beqL_refl ih]

variable {P : Go.Program} (hP : IsP P)
include hP

theorem ac47 (t : Ty) : t.ok → ∀ u : Ty, AC P 47 [.pv t.av, .pv u.av] [] (fun r _ => ∃ v, v = Ty.beq t u ∧ r = .lit (.bool v)) := by
  induction t using Ty.ind with
  | h k xs ih =>
    rintro ⟨h1, h2⟩ ⟨l, ys⟩
    exact ac47s hP k l xs ys h1 fun x hx y => ih x hx (Ty.okL_mem h2 x hx) y

theorem ac41 (t : Ty) : t.ok → ∀ u : Ty, AC P 41 [.pv t.av, .pv u.av] [] (fun r _ => ∃ v, v = Ty.beq t u ∧ r = .lit (.bool v)) := by
  induction t using Ty.ind with
  | h k xs ih =>
    rintro ⟨h1, h2⟩ ⟨l, ys⟩
    exact ac41s hP k l xs ys h1 fun x hx y => ih x hx (Ty.okL_mem h2 x hx) y

theorem ac49 (t : Ty) : t.ok → ∀ u : Ty, AC P 49 [.pv t.av, .pv u.av] [] (fun r _ => ∃ v, v = Ty.beq t u ∧ r = .lit (.bool v)) := by
  induction t using Ty.ind with
  | h k xs ih =>
    rintro ⟨h1, h2⟩ ⟨l, ys⟩
    exact ac49s hP k l xs ys (ac79 hP xs ys h1 fun x hx y => ih x hx (Ty.okL_mem h2 x hx) y)

theorem ac40 (t : Ty) : t.ok → ∀ l : Int, 0 ≤ l → l ≤ 1048576 → AC P 40 [.pv t.av, .pv (.lit (.int .i64 l))] [] (fun r _ => ∃ v, v = szR (Ty.sz t) l ∧ r = .lit (.int .i64 v)) := by
  induction t using Ty.ind with
  | h k xs ih =>
    rintro ⟨h1, h2⟩ l q1 q2
    exact ac40s hP k xs l (ac74 hP xs h1 l q1 q2 fun x hx l' g1 g2 => ih x hx (Ty.okL_mem h2 x hx) l' g1 g2)

theorem ac44 (t : Ty) : t.sz ≤ 1048576 → AC P 44 [.pv t.av] [] (fun r _ => r = t.av) := by
  induction t using Ty.ind with
  | h k xs ih =>
    intro hs
    have h1 := Ty.szL_len xs
    exact ac44s hP k xs (ac76 hP xs (by simp only [Ty.sz] at hs; omega) fun x hx => ih x hx (by have := Ty.szL_mem x hx; simp only [Ty.sz] at hs; omega))
end Go.Proofs.Ytikjhmifgedlbaa
