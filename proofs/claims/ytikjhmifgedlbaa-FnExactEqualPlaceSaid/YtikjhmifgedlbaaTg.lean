/- Places: equality, size and copies. -/
import Derived.Test.YtikjhmifgedlbaaTf
set_option linter.unusedSimpArgs false
set_option linter.unusedVariables false
namespace Go.Proofs.Ytikjhmifgedlbaa
open Go.Ax

structure Pl where
  ctx : List Tg
  ana : Bool
  ty : Ty
def Pl.av : Pl → PV
  | ⟨c, a, t⟩ => .agg (.sl 3 (c.map Tg.av) :: .lit (.bool a) :: Ty.fav t)
def Pl.beq (a b : Pl) : Bool := beqL Tg.beq a.ctx b.ctx && ((a.ana == b.ana) && Ty.beq a.ty b.ty)
def Pl.sz (a : Pl) : Nat := szP Tg.sz a.ctx a.ctx.length + Ty.sz a.ty
def Pl.ok (a : Pl) : Prop := a.ctx.length ≤ 9223372036854775807 ∧ (∀ x ∈ a.ctx, Tg.ok x) ∧ a.ty.ok
theorem Pl.erase (a : Pl) : PV.erase a.av = a.av := by
  obtain ⟨c, b, k, xs⟩ := a
  simp only [Pl.av, Ty.fav, PV.erase, PV.eraseL, Ty.eraseL_of fun x _ => Ty.erase x, eraseL_map fun x _ => Tg.erase x]
theorem Pl.beq_refl (a : Pl) : Pl.beq a a = true := by simp [Pl.beq, Ty.beq_refl, beqL_refl fun x _ => Tg.beq_refl x]
theorem mem_szP {α : Type} {sz : α → Nat} {xs : List α} {x : α} (h : x ∈ xs) : sz x ≤ szP sz xs xs.length := by
  simp only [szP, List.take_length]
  have : sz x ≤ (xs.map sz).sum := by
    induction xs with
    | nil => simp at h
    | cons a r ih =>
      rcases List.mem_cons.1 h with e | e
      · subst e; simp
      · have := ih e; simp; omega
  omega
theorem len_szP {α : Type} {sz : α → Nat} {xs : List α} : xs.length ≤ szP sz xs xs.length := by simp [szP]

variable {P : Go.Program} (hP : IsP P)
include hP

theorem ac15 (a b : Pl) (ha : a.ok) : AC P 15 [.pv a.av, .pv b.av] [] (fun r _ => ∃ v, v = Pl.beq a b ∧ r = .lit (.bool v)) := by
  obtain ⟨xs, aa, ⟨ka, cs⟩⟩ := a
  obtain ⟨ys, ab, ⟨kb, ds⟩⟩ := b
  have h1 := ac41 hP ⟨ka, cs⟩ ha.2.2 ⟨kb, ds⟩
  have h2 := ac42 hP xs ys ha.1 ha.2.1
  simp only [Pl.av, Ty.fav, Pl.beq, Ty.av] at h1 h2 ⊢
  generalize xs.map Tg.av = X at *
  generalize ys.map Tg.av = Y at *
  generalize Ty.avL cs = CX at *
  generalize Ty.avL ds = CY at *
  refine AC.introQ hP.tab hP.mixed hP.f15 rfl (by kernel_rfl) [] fun O Q hO hQ => ?_
  obtain ⟨len, nth, sub, app, fits, add, min_, mul, quo, rem, and, or, xor, shl, shr, eq, lt, le, wrap, imax, imin, seq, sapp, sfits, ssize, sat, ssub, bytes, sbytes, erase, mfits, rep, inB, olay, mull, tonat, inM⟩ := O
  obtain ⟨f_len, f_nth, f_add, f_sub, f_eq, f_lt, f_le, f_wrap, f_mfits, f_rep, f_inB, f_olay, f_mull, f_tonat, f_inM, f_erase, f_seq, f_ssize⟩ : (∀ es, len es = es.length) ∧ (∀ es (i : Nat), nth es (Int.ofNat i) = es[i]?) ∧ (∀ a b, add .i64 a b = IntKind.i64.wrap (a + b)) ∧ (∀ a b, min_ .i64 a b = IntKind.i64.wrap (a - b)) ∧
      (∀ a b, eq a b = (a == b)) ∧ (∀ a b, lt a b = decide (a < b)) ∧ (∀ a b, le a b = decide (a ≤ b)) ∧ (∀ k a, wrap k a = IntKind.wrap k a) ∧
      (∀ n b, mfits n b = (0 ≤ n ∧ n * b ≤ 140737488355328 ∧ n ≤ 4611686018427387904)) ∧ (∀ n z, rep n z = (List.replicate n.toNat z).flatten) ∧ (∀ cs off n, inB cs off n = (off + n ≤ cs.length)) ∧ (∀ cs off vs, olay cs off vs = lay cs off vs) ∧
      (∀ n sz, mull n sz = n.toNat * sz) ∧ (∀ n, tonat n = n.toNat) ∧ (∀ n l, inM n l = decide (0 ≤ n ∧ n < (l : Int))) ∧ (∀ r, erase r = PV.erase r) ∧
      (∀ x y, seq x y = (x.toList == y.toList)) ∧ (∀ x, ssize x = x.size) := by
    cases hO; exact ⟨fun _ => rfl, fun _ _ => by simp, fun _ _ => rfl, fun _ _ => rfl, fun _ _ => rfl, fun _ _ => rfl, fun _ _ => rfl, fun _ _ => rfl, fun _ _ => rfl, fun _ _ => rfl, fun _ _ _ => rfl, fun _ _ _ => rfl, fun _ _ => rfl, fun _ => rfl, fun _ _ => rfl, fun _ => rfl, fun _ _ => rfl, fun _ => rfl⟩
  clear hO
  conv => cbv
  cases aa <;> cases ab <;> conv => cbv
  all_goals first
    | (refine ⟨by simp, Or.inr ⟨by simp [PV.blks], hQ _ _ ?_⟩⟩; exact ⟨_, by simp, rfl⟩)
    | (first | refine .inl ⟨_, h1, ?_⟩ | refine ⟨_, h1, ?_⟩
       rintro r _ ⟨v1, hv1, rfl⟩ -
       cases v1
       · conv => cbv
         refine ⟨by simp, Or.inr ⟨by simp [PV.blks], hQ _ _ ?_⟩⟩
         exact ⟨_, by rw [← hv1]; simp, rfl⟩
       · conv => cbv
         first | refine .inl ⟨_, h2, ?_⟩ | refine ⟨_, h2, ?_⟩
         rintro r _ ⟨v2, hv2, rfl⟩ -
         conv => cbv
         refine ⟨by simp, Or.inr ⟨by simp [PV.blks], hQ _ _ ?_⟩⟩
         exact ⟨_, by rw [← hv1, ← hv2]; simp, rfl⟩)


theorem ac17 (a b : Pl) (ha : a.ok) : AC P 17 [.pv a.av, .pv b.av] [] (fun r _ => ∃ v, v = Pl.beq a b ∧ r = .lit (.bool v)) := by
  obtain ⟨xs, aa, ⟨ka, cs⟩⟩ := a
  obtain ⟨ys, ab, ⟨kb, ds⟩⟩ := b
  have h1 := ac47 hP ⟨ka, cs⟩ ha.2.2 ⟨kb, ds⟩
  have h2 := ac45 hP xs ys ha.1 fun x hx y => ac46 hP x y (ha.2.1 x hx)
  simp only [Pl.av, Ty.fav, Pl.beq, Ty.av] at h1 h2 ⊢
  generalize xs.map Tg.av = X at *
  generalize ys.map Tg.av = Y at *
  generalize Ty.avL cs = CX at *
  generalize Ty.avL ds = CY at *
  refine AC.introQ hP.tab hP.mixed hP.f17 rfl (by kernel_rfl) [] fun O Q hO hQ => ?_
  obtain ⟨len, nth, sub, app, fits, add, min_, mul, quo, rem, and, or, xor, shl, shr, eq, lt, le, wrap, imax, imin, seq, sapp, sfits, ssize, sat, ssub, bytes, sbytes, erase, mfits, rep, inB, olay, mull, tonat, inM⟩ := O
  obtain ⟨f_len, f_nth, f_add, f_sub, f_eq, f_lt, f_le, f_wrap, f_mfits, f_rep, f_inB, f_olay, f_mull, f_tonat, f_inM, f_erase, f_seq, f_ssize⟩ : (∀ es, len es = es.length) ∧ (∀ es (i : Nat), nth es (Int.ofNat i) = es[i]?) ∧ (∀ a b, add .i64 a b = IntKind.i64.wrap (a + b)) ∧ (∀ a b, min_ .i64 a b = IntKind.i64.wrap (a - b)) ∧
      (∀ a b, eq a b = (a == b)) ∧ (∀ a b, lt a b = decide (a < b)) ∧ (∀ a b, le a b = decide (a ≤ b)) ∧ (∀ k a, wrap k a = IntKind.wrap k a) ∧
      (∀ n b, mfits n b = (0 ≤ n ∧ n * b ≤ 140737488355328 ∧ n ≤ 4611686018427387904)) ∧ (∀ n z, rep n z = (List.replicate n.toNat z).flatten) ∧ (∀ cs off n, inB cs off n = (off + n ≤ cs.length)) ∧ (∀ cs off vs, olay cs off vs = lay cs off vs) ∧
      (∀ n sz, mull n sz = n.toNat * sz) ∧ (∀ n, tonat n = n.toNat) ∧ (∀ n l, inM n l = decide (0 ≤ n ∧ n < (l : Int))) ∧ (∀ r, erase r = PV.erase r) ∧
      (∀ x y, seq x y = (x.toList == y.toList)) ∧ (∀ x, ssize x = x.size) := by
    cases hO; exact ⟨fun _ => rfl, fun _ _ => by simp, fun _ _ => rfl, fun _ _ => rfl, fun _ _ => rfl, fun _ _ => rfl, fun _ _ => rfl, fun _ _ => rfl, fun _ _ => rfl, fun _ _ => rfl, fun _ _ _ => rfl, fun _ _ _ => rfl, fun _ _ => rfl, fun _ => rfl, fun _ _ => rfl, fun _ => rfl, fun _ _ => rfl, fun _ => rfl⟩
  clear hO
  conv => cbv
  first | refine .inl ⟨_, h2, ?_⟩ | refine ⟨_, h2, ?_⟩
  rintro r _ ⟨v2, hv2, rfl⟩ -
  cases v2
  · conv => cbv
    refine ⟨by simp, Or.inr ⟨by simp [PV.blks], hQ _ _ ?_⟩⟩
    exact ⟨_, by rw [← hv2]; simp, rfl⟩
  cases aa <;> cases ab <;> conv => cbv
  all_goals first
    | (refine ⟨by simp, Or.inr ⟨by simp [PV.blks], hQ _ _ ?_⟩⟩; exact ⟨_, by simp, rfl⟩)
    | (first | refine .inl ⟨_, h1, ?_⟩ | refine ⟨_, h1, ?_⟩
       rintro r _ ⟨v1, hv1, rfl⟩ -
       conv => cbv
       refine ⟨by simp, Or.inr ⟨by simp [PV.blks], hQ _ _ ?_⟩⟩
       exact ⟨_, by rw [← hv1, ← hv2]; simp, rfl⟩)
    | (first | refine .inl ⟨_, h1, ?_⟩ | refine ⟨_, h1, ?_⟩
       rintro r _ ⟨v1, hv1, rfl⟩ -
       cases v1
       · conv => cbv
         refine ⟨by simp, Or.inr ⟨by simp [PV.blks], hQ _ _ ?_⟩⟩
         exact ⟨_, by rw [← hv1]; simp, rfl⟩
       · conv => cbv
         refine ⟨by simp, Or.inr ⟨by simp [PV.blks], hQ _ _ ?_⟩⟩
         exact ⟨_, by rw [← hv1, ← hv2]; simp, rfl⟩)


theorem ac18 (a b : Pl) (ha : a.ok) : AC P 18 [.pv a.av, .pv b.av] [] (fun r _ => ∃ v, v = Pl.beq a b ∧ r = .lit (.bool v)) := by
  obtain ⟨xs, aa, ⟨ka, cs⟩⟩ := a
  obtain ⟨ys, ab, ⟨kb, ds⟩⟩ := b
  have h1 := ac49 hP ⟨ka, cs⟩ ha.2.2 ⟨kb, ds⟩
  have h2 := ac48 hP xs ys ha.1 fun x hx y => ac78 hP x y (ha.2.1 x hx)
  simp only [Pl.av, Ty.fav, Pl.beq, Ty.av] at h1 h2 ⊢
  generalize xs.map Tg.av = X at *
  generalize ys.map Tg.av = Y at *
  generalize Ty.avL cs = CX at *
  generalize Ty.avL ds = CY at *
  refine AC.introQ hP.tab hP.mixed hP.f18 rfl (by kernel_rfl) [] fun O Q hO hQ => ?_
  obtain ⟨len, nth, sub, app, fits, add, min_, mul, quo, rem, and, or, xor, shl, shr, eq, lt, le, wrap, imax, imin, seq, sapp, sfits, ssize, sat, ssub, bytes, sbytes, erase, mfits, rep, inB, olay, mull, tonat, inM⟩ := O
  obtain ⟨f_len, f_nth, f_add, f_sub, f_eq, f_lt, f_le, f_wrap, f_mfits, f_rep, f_inB, f_olay, f_mull, f_tonat, f_inM, f_erase, f_seq, f_ssize⟩ : (∀ es, len es = es.length) ∧ (∀ es (i : Nat), nth es (Int.ofNat i) = es[i]?) ∧ (∀ a b, add .i64 a b = IntKind.i64.wrap (a + b)) ∧ (∀ a b, min_ .i64 a b = IntKind.i64.wrap (a - b)) ∧
      (∀ a b, eq a b = (a == b)) ∧ (∀ a b, lt a b = decide (a < b)) ∧ (∀ a b, le a b = decide (a ≤ b)) ∧ (∀ k a, wrap k a = IntKind.wrap k a) ∧
      (∀ n b, mfits n b = (0 ≤ n ∧ n * b ≤ 140737488355328 ∧ n ≤ 4611686018427387904)) ∧ (∀ n z, rep n z = (List.replicate n.toNat z).flatten) ∧ (∀ cs off n, inB cs off n = (off + n ≤ cs.length)) ∧ (∀ cs off vs, olay cs off vs = lay cs off vs) ∧
      (∀ n sz, mull n sz = n.toNat * sz) ∧ (∀ n, tonat n = n.toNat) ∧ (∀ n l, inM n l = decide (0 ≤ n ∧ n < (l : Int))) ∧ (∀ r, erase r = PV.erase r) ∧
      (∀ x y, seq x y = (x.toList == y.toList)) ∧ (∀ x, ssize x = x.size) := by
    cases hO; exact ⟨fun _ => rfl, fun _ _ => by simp, fun _ _ => rfl, fun _ _ => rfl, fun _ _ => rfl, fun _ _ => rfl, fun _ _ => rfl, fun _ _ => rfl, fun _ _ => rfl, fun _ _ => rfl, fun _ _ _ => rfl, fun _ _ _ => rfl, fun _ _ => rfl, fun _ => rfl, fun _ _ => rfl, fun _ => rfl, fun _ _ => rfl, fun _ => rfl⟩
  clear hO
  conv => cbv
  first | refine .inl ⟨_, h2, ?_⟩ | refine ⟨_, h2, ?_⟩
  rintro r _ ⟨v2, hv2, rfl⟩ -
  cases v2
  · conv => cbv
    refine ⟨by simp, Or.inr ⟨by simp [PV.blks], hQ _ _ ?_⟩⟩
    exact ⟨_, by rw [← hv2]; simp, rfl⟩
  cases aa <;> cases ab <;> conv => cbv
  all_goals first
    | (refine ⟨by simp, Or.inr ⟨by simp [PV.blks], hQ _ _ ?_⟩⟩; exact ⟨_, by simp, rfl⟩)
    | (first | refine .inl ⟨_, h1, ?_⟩ | refine ⟨_, h1, ?_⟩
       rintro r _ ⟨v1, hv1, rfl⟩ -
       conv => cbv
       refine ⟨by simp, Or.inr ⟨by simp [PV.blks], hQ _ _ ?_⟩⟩
       exact ⟨_, by rw [← hv1, ← hv2]; simp, rfl⟩)
    | (first | refine .inl ⟨_, h1, ?_⟩ | refine ⟨_, h1, ?_⟩
       rintro r _ ⟨v1, hv1, rfl⟩ -
       cases v1
       · conv => cbv
         refine ⟨by simp, Or.inr ⟨by simp [PV.blks], hQ _ _ ?_⟩⟩
         exact ⟨_, by rw [← hv1]; simp, rfl⟩
       · conv => cbv
         refine ⟨by simp, Or.inr ⟨by simp [PV.blks], hQ _ _ ?_⟩⟩
         exact ⟨_, by rw [← hv1, ← hv2]; simp, rfl⟩)


theorem ac14 (a : Pl) (ha : a.ok) (l : Int) (h0 : 0 ≤ l) (h1 : l ≤ 1048576) : AC P 14 [.pv a.av, .pv (.lit (.int .i64 l))] [] (fun r _ => ∃ v, v = szR (Pl.sz a) l ∧ r = .lit (.int .i64 v)) := by
  obtain ⟨xs, aa, ⟨ka, cs⟩⟩ := a
  have hc := ac39 hP xs ha.1 l h0 h1 fun x hx l' q1 q2 => ac73 hP x (ha.2.1 x hx) l' q1 q2
  have hd := ac40 hP ⟨ka, cs⟩ ha.2.2
  simp only [Pl.av, Ty.fav, Pl.sz, Ty.av] at hc hd ⊢
  generalize (Ty.mk ka cs).sz = T at *
  generalize szP Tg.sz xs xs.length = S at *
  generalize xs.map Tg.av = X at *
  generalize Ty.avL cs = CX at *
  refine AC.introQ hP.tab hP.mixed hP.f14 rfl (by kernel_rfl) [] fun O Q hO hQ => ?_
  obtain ⟨len, nth, sub, app, fits, add, min_, mul, quo, rem, and, or, xor, shl, shr, eq, lt, le, wrap, imax, imin, seq, sapp, sfits, ssize, sat, ssub, bytes, sbytes, erase, mfits, rep, inB, olay, mull, tonat, inM⟩ := O
  obtain ⟨f_len, f_nth, f_add, f_sub, f_eq, f_lt, f_le, f_wrap, f_mfits, f_rep, f_inB, f_olay, f_mull, f_tonat, f_inM, f_erase, f_seq, f_ssize⟩ : (∀ es, len es = es.length) ∧ (∀ es (i : Nat), nth es (Int.ofNat i) = es[i]?) ∧ (∀ a b, add .i64 a b = IntKind.i64.wrap (a + b)) ∧ (∀ a b, min_ .i64 a b = IntKind.i64.wrap (a - b)) ∧
      (∀ a b, eq a b = (a == b)) ∧ (∀ a b, lt a b = decide (a < b)) ∧ (∀ a b, le a b = decide (a ≤ b)) ∧ (∀ k a, wrap k a = IntKind.wrap k a) ∧
      (∀ n b, mfits n b = (0 ≤ n ∧ n * b ≤ 140737488355328 ∧ n ≤ 4611686018427387904)) ∧ (∀ n z, rep n z = (List.replicate n.toNat z).flatten) ∧ (∀ cs off n, inB cs off n = (off + n ≤ cs.length)) ∧ (∀ cs off vs, olay cs off vs = lay cs off vs) ∧
      (∀ n sz, mull n sz = n.toNat * sz) ∧ (∀ n, tonat n = n.toNat) ∧ (∀ n l, inM n l = decide (0 ≤ n ∧ n < (l : Int))) ∧ (∀ r, erase r = PV.erase r) ∧
      (∀ x y, seq x y = (x.toList == y.toList)) ∧ (∀ x, ssize x = x.size) := by
    cases hO; exact ⟨fun _ => rfl, fun _ _ => by simp, fun _ _ => rfl, fun _ _ => rfl, fun _ _ => rfl, fun _ _ => rfl, fun _ _ => rfl, fun _ _ => rfl, fun _ _ => rfl, fun _ _ => rfl, fun _ _ _ => rfl, fun _ _ _ => rfl, fun _ _ => rfl, fun _ => rfl, fun _ _ => rfl, fun _ => rfl, fun _ _ => rfl, fun _ => rfl⟩
  clear hO
  conv => cbv
  first | refine .inl ⟨_, hc, ?_⟩ | refine ⟨_, hc, ?_⟩
  rintro r _ ⟨v1, hv1, rfl⟩ -
  conv => cbv
  refine br (fun h => ?_) (fun h => ?_) <;> (try rw [h]) <;> conv => cbv
  · refine ⟨by simp, Or.inr ⟨by simp [PV.blks], hQ _ _ ?_⟩⟩
    rw [f_lt] at h
    simp only [decide_eq_true_eq] at h
    rw [szR] at hv1
    exact ⟨_, by rw [szR, if_neg (by split at hv1 <;> omega)], rfl⟩
  · rw [f_lt] at h
    simp only [decide_eq_false_iff_not] at h
    rw [szR] at hv1
    have hd := hd v1 (by omega) (by split at hv1 <;> omega)
    first | refine .inl ⟨_, hd, ?_⟩ | refine ⟨_, hd, ?_⟩
    rintro r _ ⟨v, hv, rfl⟩ -
    conv => cbv
    refine br (fun h2 => ?_) (fun h2 => ?_) <;> (try rw [h2]) <;> conv => cbv
    · refine ⟨by simp, Or.inr ⟨by simp [PV.blks], hQ _ _ ?_⟩⟩
      rw [f_lt] at h2
      simp only [decide_eq_true_eq] at h2
      refine ⟨_, ?_, rfl⟩
      rw [szR] at hv ⊢
      rw [if_neg]
      split at hv <;> split at hv1 <;> omega
    · refine ⟨by simp, Or.inr ⟨by simp [PV.blks], hQ _ _ ?_⟩⟩
      rw [f_lt] at h2
      simp only [decide_eq_false_iff_not] at h2
      refine ⟨_, ?_, rfl⟩
      rw [szR] at hv ⊢
      split at hv <;> split at hv1
      · rw [if_pos (by omega)]; omega
      all_goals omega

theorem ac16 (a : Pl) (hs : a.sz ≤ 1048576) : AC P 16 [.pv a.av] [] (fun r _ => r = a.av) := by
  have he := Pl.erase a
  obtain ⟨xs, aa, ⟨ka, cs⟩⟩ := a
  simp only [Pl.sz] at hs
  have hc := ac43 hP xs (by have := len_szP (sz := Tg.sz) (xs := xs); omega) fun x hx => ac75 hP x (by have := mem_szP (sz := Tg.sz) hx; omega)
  have hd := ac44 hP ⟨ka, cs⟩ (by omega)
  simp only [Pl.av, Ty.fav, Ty.av] at hc hd he ⊢
  generalize xs.map Tg.av = X at *
  generalize Ty.avL cs = CX at *
  refine AC.introQ hP.tab hP.mixed hP.f16 rfl (by kernel_rfl) [] fun O Q hO hQ => ?_
  obtain ⟨len, nth, sub, app, fits, add, min_, mul, quo, rem, and, or, xor, shl, shr, eq, lt, le, wrap, imax, imin, seq, sapp, sfits, ssize, sat, ssub, bytes, sbytes, erase, mfits, rep, inB, olay, mull, tonat, inM⟩ := O
  obtain ⟨f_len, f_nth, f_add, f_sub, f_eq, f_lt, f_le, f_wrap, f_mfits, f_rep, f_inB, f_olay, f_mull, f_tonat, f_inM, f_erase, f_seq, f_ssize⟩ : (∀ es, len es = es.length) ∧ (∀ es (i : Nat), nth es (Int.ofNat i) = es[i]?) ∧ (∀ a b, add .i64 a b = IntKind.i64.wrap (a + b)) ∧ (∀ a b, min_ .i64 a b = IntKind.i64.wrap (a - b)) ∧
      (∀ a b, eq a b = (a == b)) ∧ (∀ a b, lt a b = decide (a < b)) ∧ (∀ a b, le a b = decide (a ≤ b)) ∧ (∀ k a, wrap k a = IntKind.wrap k a) ∧
      (∀ n b, mfits n b = (0 ≤ n ∧ n * b ≤ 140737488355328 ∧ n ≤ 4611686018427387904)) ∧ (∀ n z, rep n z = (List.replicate n.toNat z).flatten) ∧ (∀ cs off n, inB cs off n = (off + n ≤ cs.length)) ∧ (∀ cs off vs, olay cs off vs = lay cs off vs) ∧
      (∀ n sz, mull n sz = n.toNat * sz) ∧ (∀ n, tonat n = n.toNat) ∧ (∀ n l, inM n l = decide (0 ≤ n ∧ n < (l : Int))) ∧ (∀ r, erase r = PV.erase r) ∧
      (∀ x y, seq x y = (x.toList == y.toList)) ∧ (∀ x, ssize x = x.size) := by
    cases hO; exact ⟨fun _ => rfl, fun _ _ => by simp, fun _ _ => rfl, fun _ _ => rfl, fun _ _ => rfl, fun _ _ => rfl, fun _ _ => rfl, fun _ _ => rfl, fun _ _ => rfl, fun _ _ => rfl, fun _ _ _ => rfl, fun _ _ _ => rfl, fun _ _ => rfl, fun _ => rfl, fun _ _ => rfl, fun _ => rfl, fun _ _ => rfl, fun _ => rfl⟩
  clear hO
  conv => cbv
  first | refine .inl ⟨_, hc, ?_⟩ | refine ⟨_, hc, ?_⟩
  rintro r _ rfl -
  conv => cbv
  first | refine .inl ⟨_, hd, ?_⟩ | refine ⟨_, hd, ?_⟩
  rintro r _ rfl -
  conv => cbv
  refine ⟨by simp, Or.inl (hQ _ _ ?_)⟩
  show erase _ = _
  rw [f_erase]
  exact he
end Go.Proofs.Ytikjhmifgedlbaa
