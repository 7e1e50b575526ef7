/- Contracts of CoreArity in the program and in its specification: both return the same number, for every int; no condition. -/
import Derived.Test.YtikjhmifgedlbaaCa
namespace Go.Proofs.Ytikjhmifgedlbaa
open Go.Ax

def arity (n : Int) : Int := if n < 1 ∨ 15 < n then -1 else ([0, 0, 1, 0, 1, 2, 0, 2, 2, 0, 3, 2, 1, 1, 1, 1][n.toNat]?).getD 0

theorem between {n : Int} (h : ¬ (n < 1 ∨ 15 < n)) : n = 1 ∨ n = 2 ∨ n = 3 ∨ n = 4 ∨ n = 5 ∨ n = 6 ∨ n = 7 ∨ n = 8 ∨ n = 9 ∨ n = 10 ∨ n = 11 ∨ n = 12 ∨ n = 13 ∨ n = 14 ∨ n = 15 := by omega

variable {P : Go.Program} (hP : IsP P)
include hP

theorem ac12 (n : Int) : AC P 12 [.pv (.lit (.int .i64 n))] [] (fun r _ => ∃ v, r = .lit (.int .i64 v) ∧ v = arity n) := by
  refine AC.introQ hP.tab hP.mixed hP.f12 rfl (by kernel_rfl) fun O Q hO hQ => ?_
  obtain ⟨len, nth, sub, app, fits, add, min_, mul, quo, rem, and, or, xor, shl, shr, eq, lt, le, wrap, imax, imin, seq, sapp, sfits, ssize, sat, ssub, bytes, sbytes, erase⟩ := O
  conv => cbv
  refine .inl ⟨_, ac38 hP _ _ _, ?_⟩
  rintro r x ⟨v, hv, rfl⟩ -
  conv => cbv
  repeat' (first | refine brt (fun h => ?_) (fun h => ?_) | refine brf (fun h => ?_) (fun h => ?_) | refine br (fun h => ?_) (fun h => ?_)) <;> (try rw [h]) <;> conv => cbv
  · refine ⟨by simp, Or.inr ⟨by simp [PV.blks], hQ _ _ ?_⟩⟩
    clear hQ
    have h2 : v = true ↔ (1 ≤ n ∧ n ≤ 15) := by rw [hv]; simp
    have hn : n < 1 ∨ 15 < n := by
      cases v
      · have h3 : ¬ (1 ≤ n ∧ n ≤ 15) := fun q => by cases h2.2 q
        omega
      · cases h
    exact ⟨_, rfl, by rw [arity, if_pos hn]⟩
  · have h2 : v = true ↔ (1 ≤ n ∧ n ≤ 15) := by rw [hv]; simp
    have hn : ¬ (n < 1 ∨ 15 < n) := by
      cases v
      · cases h
      · have h3 := h2.1 rfl
        omega
    clear hv h h2
    refine .inl fun b _ => ?_
    cases hO
    rcases between hn with rfl | rfl | rfl | rfl | rfl | rfl | rfl | rfl | rfl | rfl | rfl | rfl | rfl | rfl | rfl <;> conv => cbv
    all_goals refine ⟨by simp, Or.inr ⟨by simp [PV.blks], hQ _ _ ?_⟩⟩
    all_goals exact ⟨_, rfl, by decide⟩

theorem ac13 (n : Int) : AC P 13 [.pv (.lit (.int .i64 n))] [] (fun r _ => ∃ v, r = .lit (.int .i64 v) ∧ v = arity n) := by
  refine AC.introQ hP.tab hP.mixed hP.f13 rfl (by kernel_rfl) fun O Q hO hQ => ?_
  obtain ⟨len, nth, sub, app, fits, add, min_, mul, quo, rem, and, or, xor, shl, shr, eq, lt, le, wrap, imax, imin, seq, sapp, sfits, ssize, sat, ssub, bytes, sbytes, erase⟩ := O
  conv => cbv
  repeat' (first | refine brt (fun h => ?_) (fun h => ?_) | refine brf (fun h => ?_) (fun h => ?_) | refine br (fun h => ?_) (fun h => ?_)) <;> (try rw [h]) <;> conv => cbv
  all_goals refine ⟨by simp, Or.inr ⟨by simp [PV.blks], hQ _ _ ?_⟩⟩
  all_goals refine ⟨_, rfl, ?_⟩
  all_goals clear hQ
  all_goals cases hO
  all_goals simp only [beq_iff_eq, beq_eq_false_iff_ne, ne_eq, decide_eq_true_eq, decide_eq_false_iff_not] at *
  all_goals first
    | (subst_vars; decide)
    | (rw [arity, if_pos (by omega)])

theorem ac4 (n : Int) : AC P 4 [.pv (.lit (.int .i64 n))] [] (fun r _ => r = .lit (.bool true)) := by
  refine AC.introQ hP.tab hP.mixed hP.f4 rfl (by kernel_rfl) fun O Q hO hQ => ?_
  obtain ⟨len, nth, sub, app, fits, add, min_, mul, quo, rem, and, or, xor, shl, shr, eq, lt, le, wrap, imax, imin, seq, sapp, sfits, ssize, sat, ssub, bytes, sbytes, erase⟩ := O
  conv => cbv
  refine .inl ⟨_, ac12 hP _, ?_⟩
  rintro r x ⟨v, rfl, hv⟩ -
  conv => cbv
  refine .inl ⟨_, ac13 hP _, ?_⟩
  rintro r x ⟨v', rfl, hv'⟩ -
  have hs : v' = v := by rw [hv, hv']
  subst hs
  clear hv hv'
  conv => cbv
  have e : eq v' v' = true := by cases hO; simp
  rw [e]
  conv => cbv
  refine ⟨by simp, Or.inr ⟨by simp [PV.blks], hQ _ _ rfl⟩⟩
end Go.Proofs.Ytikjhmifgedlbaa
