/- The law FnExactEqualPlace: its walk. -/
import Derived.Test.YtikjhmifgedlbaaTg
set_option linter.unusedSimpArgs false
set_option linter.unusedVariables false
namespace Go.Proofs.Ytikjhmifgedlbaa
open Go.Ax
variable {P : Go.Program} (hP : IsP P)
include hP

theorem ac5 (a b : Pl) (ha : a.ok) (hb : b.ok) : AC P 5 [.pv a.av, .pv b.av] [] (fun r _ => r = .lit (.bool true)) := by
  have h14a := ac14 hP a ha 1048576 (by omega) (by omega)
  have h14b := ac14 hP b hb
  have h16a := ac16 hP a
  have h16b := ac16 hP b
  have h15 := ac15 hP a b ha
  have h17 := ac17 hP a b ha
  have h18a := ac18 hP a a ha
  have h18b := ac18 hP b b hb
  rw [Pl.beq_refl] at h18a h18b
  generalize a.sz = Sa at *
  generalize b.sz = Sb at *
  generalize Pl.beq a b = E at *
  obtain ⟨xs, aa, ⟨ka, cs⟩⟩ := a
  obtain ⟨ys, ab, ⟨kb, ds⟩⟩ := b
  simp only [Pl.av, Ty.fav] at *
  generalize xs.map Tg.av = X at *
  generalize ys.map Tg.av = Y at *
  generalize Ty.avL cs = CX at *
  generalize Ty.avL ds = CY at *
  refine AC.introQ hP.tab hP.mixed hP.f5 rfl (by kernel_rfl) [] fun O Q hO hQ => ?_
  obtain ⟨len, nth, sub, app, fits, add, min_, mul, quo, rem, and, or, xor, shl, shr, eq, lt, le, wrap, imax, imin, seq, sapp, sfits, ssize, sat, ssub, bytes, sbytes, erase, mfits, rep, inB, olay, mull, tonat, inM⟩ := O
  obtain ⟨f_len, f_nth, f_add, f_sub, f_eq, f_lt, f_le, f_wrap, f_mfits, f_rep, f_inB, f_olay, f_mull, f_tonat, f_inM, f_erase, f_seq, f_ssize⟩ : (∀ es, len es = es.length) ∧ (∀ es (i : Nat), nth es (Int.ofNat i) = es[i]?) ∧ (∀ a b, add .i64 a b = IntKind.i64.wrap (a + b)) ∧ (∀ a b, min_ .i64 a b = IntKind.i64.wrap (a - b)) ∧
      (∀ a b, eq a b = (a == b)) ∧ (∀ a b, lt a b = decide (a < b)) ∧ (∀ a b, le a b = decide (a ≤ b)) ∧ (∀ k a, wrap k a = IntKind.wrap k a) ∧
      (∀ n b, mfits n b = (0 ≤ n ∧ n * b ≤ 140737488355328 ∧ n ≤ 4611686018427387904)) ∧ (∀ n z, rep n z = (List.replicate n.toNat z).flatten) ∧ (∀ cs off n, inB cs off n = (off + n ≤ cs.length)) ∧ (∀ cs off vs, olay cs off vs = lay cs off vs) ∧
      (∀ n sz, mull n sz = n.toNat * sz) ∧ (∀ n, tonat n = n.toNat) ∧ (∀ n l, inM n l = decide (0 ≤ n ∧ n < (l : Int))) ∧ (∀ r, erase r = PV.erase r) ∧
      (∀ x y, seq x y = (x.toList == y.toList)) ∧ (∀ x, ssize x = x.size) := by
    cases hO; exact ⟨fun _ => rfl, fun _ _ => by simp, fun _ _ => rfl, fun _ _ => rfl, fun _ _ => rfl, fun _ _ => rfl, fun _ _ => rfl, fun _ _ => rfl, fun _ _ => rfl, fun _ _ => rfl, fun _ _ _ => rfl, fun _ _ _ => rfl, fun _ _ => rfl, fun _ => rfl, fun _ _ => rfl, fun _ => rfl, fun _ _ => rfl, fun _ => rfl⟩
  clear hO
  ((conv => cbv); try (first | (refine ordI [0, 2, 1, 3, 4, 5] rfl (by kernel_rfl) ?_; conv => cbv) | (refine ordI [0, 1, 2, 3, 4] rfl (by kernel_rfl) ?_; conv => cbv)))
  first | refine .inl ⟨_, h14a, ?_⟩ | refine ⟨_, h14a, ?_⟩
  rintro r _ ⟨v1, hv1, rfl⟩ -
  ((conv => cbv); try (first | (refine ordI [0, 2, 1, 3, 4, 5] rfl (by kernel_rfl) ?_; conv => cbv) | (refine ordI [0, 1, 2, 3, 4] rfl (by kernel_rfl) ?_; conv => cbv)))
  refine br (fun h => ?_) (fun h => ?_) <;> (try rw [h]) <;> ((conv => cbv); try (first | (refine ordI [0, 2, 1, 3, 4, 5] rfl (by kernel_rfl) ?_; conv => cbv) | (refine ordI [0, 1, 2, 3, 4] rfl (by kernel_rfl) ?_; conv => cbv)))
  · refine ⟨by simp, Or.inr ⟨by simp [PV.blks], hQ _ _ rfl⟩⟩
  rw [f_lt] at h
  simp only [decide_eq_false_iff_not] at h
  have b1 : Sa ≤ 1048576 ∧ 0 ≤ v1 ∧ v1 ≤ 1048576 := by rw [szR] at hv1; split at hv1 <;> omega
  have h14b := h14b v1 b1.2.1 b1.2.2
  first | refine .inl ⟨_, h14b, ?_⟩ | refine ⟨_, h14b, ?_⟩
  rintro r _ ⟨v2, hv2, rfl⟩ -
  ((conv => cbv); try (first | (refine ordI [0, 2, 1, 3, 4, 5] rfl (by kernel_rfl) ?_; conv => cbv) | (refine ordI [0, 1, 2, 3, 4] rfl (by kernel_rfl) ?_; conv => cbv)))
  refine br (fun h2 => ?_) (fun h2 => ?_) <;> (try rw [h2]) <;> ((conv => cbv); try (first | (refine ordI [0, 2, 1, 3, 4, 5] rfl (by kernel_rfl) ?_; conv => cbv) | (refine ordI [0, 1, 2, 3, 4] rfl (by kernel_rfl) ?_; conv => cbv)))
  · refine ⟨by simp, Or.inr ⟨by simp [PV.blks], hQ _ _ rfl⟩⟩
  rw [f_lt] at h2
  simp only [decide_eq_false_iff_not] at h2
  have b2 : Sb ≤ 1048576 := by rw [szR] at hv2; split at hv2 <;> omega
  have h16a := h16a b1.1
  have h16b := h16b b2
  first | refine .inl ⟨_, h16a, ?_⟩ | refine ⟨_, h16a, ?_⟩
  rintro r _ rfl -
  ((conv => cbv); try (first | (refine ordI [0, 2, 1, 3, 4, 5] rfl (by kernel_rfl) ?_; conv => cbv) | (refine ordI [0, 1, 2, 3, 4] rfl (by kernel_rfl) ?_; conv => cbv)))
  first | refine .inl ⟨_, h16b, ?_⟩ | refine ⟨_, h16b, ?_⟩
  rintro r _ rfl -
  ((conv => cbv); try (first | (refine ordI [0, 2, 1, 3, 4, 5] rfl (by kernel_rfl) ?_; conv => cbv) | (refine ordI [0, 1, 2, 3, 4] rfl (by kernel_rfl) ?_; conv => cbv)))
  first | refine .inl ⟨_, h15, ?_⟩ | refine ⟨_, h15, ?_⟩
  rintro r _ ⟨v3, hv3, rfl⟩ -
  ((conv => cbv); try (first | (refine ordI [0, 2, 1, 3, 4, 5] rfl (by kernel_rfl) ?_; conv => cbv) | (refine ordI [0, 1, 2, 3, 4] rfl (by kernel_rfl) ?_; conv => cbv)))
  first | refine .inl ⟨_, h16a, ?_⟩ | refine ⟨_, h16a, ?_⟩
  rintro r _ rfl -
  ((conv => cbv); try (first | (refine ordI [0, 2, 1, 3, 4, 5] rfl (by kernel_rfl) ?_; conv => cbv) | (refine ordI [0, 1, 2, 3, 4] rfl (by kernel_rfl) ?_; conv => cbv)))
  first | refine .inl ⟨_, h16b, ?_⟩ | refine ⟨_, h16b, ?_⟩
  rintro r _ rfl -
  ((conv => cbv); try (first | (refine ordI [0, 2, 1, 3, 4, 5] rfl (by kernel_rfl) ?_; conv => cbv) | (refine ordI [0, 1, 2, 3, 4] rfl (by kernel_rfl) ?_; conv => cbv)))
  first | refine .inl ⟨_, h17, ?_⟩ | refine ⟨_, h17, ?_⟩
  rintro r _ ⟨v4, hv4, rfl⟩ -
  have hv5 : v4 = v3 := by rw [hv3, hv4]
  subst hv5
  clear hv3 hv4
  cases v4
  all_goals
    ((conv => cbv); try (first | (refine ordI [0, 2, 1, 3, 4, 5] rfl (by kernel_rfl) ?_; conv => cbv) | (refine ordI [0, 1, 2, 3, 4] rfl (by kernel_rfl) ?_; conv => cbv)))
    first | refine .inl ⟨_, h16a, ?_⟩ | refine ⟨_, h16a, ?_⟩
    rintro r _ rfl -
    ((conv => cbv); try (first | (refine ordI [0, 2, 1, 3, 4, 5] rfl (by kernel_rfl) ?_; conv => cbv) | (refine ordI [0, 1, 2, 3, 4] rfl (by kernel_rfl) ?_; conv => cbv)))
    first | refine .inl ⟨_, h18a, ?_⟩ | refine ⟨_, h18a, ?_⟩
    rintro r _ ⟨v6, hv6, rfl⟩ -
    subst hv6
    ((conv => cbv); try (first | (refine ordI [0, 2, 1, 3, 4, 5] rfl (by kernel_rfl) ?_; conv => cbv) | (refine ordI [0, 1, 2, 3, 4] rfl (by kernel_rfl) ?_; conv => cbv)))
    first | refine .inl ⟨_, h16b, ?_⟩ | refine ⟨_, h16b, ?_⟩
    rintro r _ rfl -
    ((conv => cbv); try (first | (refine ordI [0, 2, 1, 3, 4, 5] rfl (by kernel_rfl) ?_; conv => cbv) | (refine ordI [0, 1, 2, 3, 4] rfl (by kernel_rfl) ?_; conv => cbv)))
    first | refine .inl ⟨_, h18b, ?_⟩ | refine ⟨_, h18b, ?_⟩
    rintro r _ ⟨v7, hv7, rfl⟩ -
    subst hv7
    ((conv => cbv); try (first | (refine ordI [0, 2, 1, 3, 4, 5] rfl (by kernel_rfl) ?_; conv => cbv) | (refine ordI [0, 1, 2, 3, 4] rfl (by kernel_rfl) ?_; conv => cbv)))
    refine ⟨by simp, Or.inr ⟨by simp [PV.blks], hQ _ _ rfl⟩⟩
end Go.Proofs.Ytikjhmifgedlbaa
