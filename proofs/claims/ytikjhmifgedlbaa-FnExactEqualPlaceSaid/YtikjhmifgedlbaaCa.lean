/- Contracts of small functions: what each returns, for every argument; no condition. -/
import Derived.Test.YtikjhmifgedlbaaAxV
import Derived.Test.YtikjhmifgedlbaaAxBr
namespace Go.Proofs.Ytikjhmifgedlbaa
open Go.Ax
variable {P : Go.Program} (hP : IsP P)
include hP

theorem ac38 (a b c : Int) : AC P 38 [.pv (.lit (.int .i64 a)), .pv (.lit (.int .i64 b)), .pv (.lit (.int .i64 c))] [] (fun r _ => ∃ v, v = (decide (b ≤ a) && decide (a ≤ c)) ∧ r = .lit (.bool v)) := by
  refine AC.introQ hP.tab hP.mixed hP.f38 rfl (by kernel_rfl) [] fun O Q hO hQ => ?_
  obtain ⟨len, nth, sub, app, fits, add, min_, mul, quo, rem, and, or, xor, shl, shr, eq, lt, le, wrap, imax, imin, seq, sapp, sfits, ssize, sat, ssub, bytes, sbytes, erase, mfits, rep, inB, olay, mull, tonat, inM⟩ := O
  conv => cbv
  repeat' (first | refine brt (fun h => ?_) (fun h => ?_) | refine brf (fun h => ?_) (fun h => ?_) | refine br (fun h => ?_) (fun h => ?_)) <;> (try rw [h]) <;> conv => cbv
  all_goals refine ⟨by simp, Or.inr ⟨by simp [PV.blks], hQ _ _ ?_⟩⟩
  all_goals clear hQ
  all_goals cases hO
  all_goals simp_all
  all_goals omega

theorem ac10 (n : Int) : AC P 10 [.pv (.lit (.int .i64 n))] [] (fun r _ => ∃ s, r = .lit (.string s) ∧ (n < 0 ∨ 2 < n → s = ⟨#[63]⟩) ∧ (n = 0 → s = ⟨#[110, 111, 110, 101]⟩) ∧ (n = 1 → s = ⟨#[118, 97, 108, 117, 101]⟩) ∧ (n = 2 → s = ⟨#[111, 112, 101, 110]⟩)) := by
  refine AC.introQ hP.tab hP.mixed hP.f10 rfl (by kernel_rfl) [] fun O Q hO hQ => ?_
  obtain ⟨len, nth, sub, app, fits, add, min_, mul, quo, rem, and, or, xor, shl, shr, eq, lt, le, wrap, imax, imin, seq, sapp, sfits, ssize, sat, ssub, bytes, sbytes, erase, mfits, rep, inB, olay, mull, tonat, inM⟩ := O
  conv => cbv
  refine .inl ⟨_, ac38 hP _ _ _, ?_⟩
  rintro r x ⟨v, hv, rfl⟩ -
  conv => cbv
  repeat' (first | refine brt (fun h => ?_) (fun h => ?_) | refine brf (fun h => ?_) (fun h => ?_) | refine br (fun h => ?_) (fun h => ?_)) <;> (try rw [h]) <;> conv => cbv
  · refine ⟨by simp, Or.inr ⟨by simp [PV.blks], hQ _ _ ?_⟩⟩
    clear hQ
    clear hO
    cases v <;> simp_all
    omega
  · cases v
    · simp at h
    have hn : n = 0 ∨ n = 1 ∨ n = 2 := by simp at hv; omega
    clear hv h
    refine .inl fun b _ => ?_
    cases hO
    rcases hn with rfl | rfl | rfl <;> conv => cbv
    all_goals refine ⟨by simp, Or.inr ⟨by simp [PV.blks], hQ _ _ ?_⟩⟩
    all_goals exact ⟨_, rfl, by simp⟩
theorem ac11 (n : Int) : AC P 11 [.pv (.lit (.int .i64 n))] [] (fun r _ => ∃ s, r = .lit (.string s) ∧ (n < 0 ∨ 2 < n → s = ⟨#[63]⟩) ∧ (n = 0 → s = ⟨#[110, 111, 110, 101]⟩) ∧ (n = 1 → s = ⟨#[118, 97, 108, 117, 101]⟩) ∧ (n = 2 → s = ⟨#[111, 112, 101, 110]⟩)) := by
  refine AC.introQ hP.tab hP.mixed hP.f11 rfl (by kernel_rfl) [] fun O Q hO hQ => ?_
  obtain ⟨len, nth, sub, app, fits, add, min_, mul, quo, rem, and, or, xor, shl, shr, eq, lt, le, wrap, imax, imin, seq, sapp, sfits, ssize, sat, ssub, bytes, sbytes, erase, mfits, rep, inB, olay, mull, tonat, inM⟩ := O
  conv => cbv
  repeat' (first | refine brt (fun h => ?_) (fun h => ?_) | refine brf (fun h => ?_) (fun h => ?_) | refine br (fun h => ?_) (fun h => ?_)) <;> (try rw [h]) <;> conv => cbv
  · refine ⟨by simp, Or.inr ⟨by simp [PV.blks], hQ _ _ ?_⟩⟩
    clear hQ
    cases hO
    simp_all
    omega
  · cases hO
    have hn : n = 0 ∨ n = 1 ∨ n = 2 := by simp_all; omega
    refine .inl fun b _ => ?_
    rcases hn with rfl | rfl | rfl <;> conv => cbv
    all_goals refine ⟨by simp, Or.inr ⟨by simp [PV.blks], hQ _ _ ?_⟩⟩
    all_goals exact ⟨_, rfl, by simp⟩
  · refine ⟨by simp, Or.inr ⟨by simp [PV.blks], hQ _ _ ?_⟩⟩
    clear hQ
    cases hO
    simp_all
    omega

theorem ac3 (n : Int) : AC P 3 [.pv (.lit (.int .i64 n))] [] (fun r _ => r = .lit (.bool true)) := by
  refine AC.introQ hP.tab hP.mixed hP.f3 rfl (by kernel_rfl) [] fun O Q hO hQ => ?_
  obtain ⟨len, nth, sub, app, fits, add, min_, mul, quo, rem, and, or, xor, shl, shr, eq, lt, le, wrap, imax, imin, seq, sapp, sfits, ssize, sat, ssub, bytes, sbytes, erase, mfits, rep, inB, olay, mull, tonat, inM⟩ := O
  conv => cbv
  refine .inl ⟨_, ac10 hP _, ?_⟩
  rintro r x ⟨s, rfl, h1, h2, h3, h4⟩ -
  conv => cbv
  refine .inl ⟨_, ac11 hP _, ?_⟩
  rintro r x ⟨s', rfl, g1, g2, g3, g4⟩ -
  have hs : s = s' := by
    have hc : n < 0 ∨ n = 0 ∨ n = 1 ∨ n = 2 ∨ 2 < n := by omega
    rcases hc with q | q | q | q | q
    · rw [h1 (.inl q), g1 (.inl q)]
    · rw [h2 q, g2 q]
    · rw [h3 q, g3 q]
    · rw [h4 q, g4 q]
    · rw [h1 (.inr q), g1 (.inr q)]
  subst hs
  clear h1 h2 h3 h4 g1 g2 g3 g4
  conv => cbv
  have e : seq s s = true := by cases hO; simp
  rw [e]
  conv => cbv
  refine ⟨by simp, Or.inr ⟨by simp [PV.blks], hQ _ _ rfl⟩⟩
end Go.Proofs.Ytikjhmifgedlbaa
