/- Typings, second part: one typing; places. -/
import Derived.Test.YtikjhmifgedlbaaTe
set_option linter.unusedSimpArgs false
set_option linter.unusedVariables false
namespace Go.Proofs.Ytikjhmifgedlbaa
open Go.Ax
variable {P : Go.Program} (hP : IsP P)
include hP

theorem ac46 (a b : Tg) (ha : a.ok) : AC P 46 [.pv a.av, .pv b.av] [] (fun r _ => ∃ v, v = Tg.beq a b ∧ r = .lit (.bool v)) := by
  obtain ⟨na, ⟨ka, xs⟩⟩ := a
  obtain ⟨nb, ⟨kb, ys⟩⟩ := b
  have hc := ac47 hP ⟨ka, xs⟩ ha.2 ⟨kb, ys⟩
  simp only [Tg.av, Ty.fav, Tg.beq, Ty.av] at hc ⊢
  generalize Ty.avL xs = X at *
  generalize Ty.avL ys = Y at *
  refine AC.introQ hP.tab hP.mixed hP.f46 rfl (by kernel_rfl) [] fun O Q hO hQ => ?_
  obtain ⟨len, nth, sub, app, fits, add, min_, mul, quo, rem, and, or, xor, shl, shr, eq, lt, le, wrap, imax, imin, seq, sapp, sfits, ssize, sat, ssub, bytes, sbytes, erase, mfits, rep, inB, olay, mull, tonat, inM⟩ := O
  obtain ⟨f_len, f_nth, f_add, f_sub, f_eq, f_lt, f_le, f_wrap, f_mfits, f_rep, f_inB, f_olay, f_mull, f_tonat, f_inM, f_erase, f_seq, f_ssize⟩ : (∀ es, len es = es.length) ∧ (∀ es (i : Nat), nth es (Int.ofNat i) = es[i]?) ∧ (∀ a b, add .i64 a b = IntKind.i64.wrap (a + b)) ∧ (∀ a b, min_ .i64 a b = IntKind.i64.wrap (a - b)) ∧
      (∀ a b, eq a b = (a == b)) ∧ (∀ a b, lt a b = decide (a < b)) ∧ (∀ a b, le a b = decide (a ≤ b)) ∧ (∀ k a, wrap k a = IntKind.wrap k a) ∧
      (∀ n b, mfits n b = (0 ≤ n ∧ n * b ≤ 140737488355328 ∧ n ≤ 4611686018427387904)) ∧ (∀ n z, rep n z = (List.replicate n.toNat z).flatten) ∧ (∀ cs off n, inB cs off n = (off + n ≤ cs.length)) ∧ (∀ cs off vs, olay cs off vs = lay cs off vs) ∧
      (∀ n sz, mull n sz = n.toNat * sz) ∧ (∀ n, tonat n = n.toNat) ∧ (∀ n l, inM n l = decide (0 ≤ n ∧ n < (l : Int))) ∧ (∀ r, erase r = PV.erase r) ∧
      (∀ x y, seq x y = (x.toList == y.toList)) ∧ (∀ x, ssize x = x.size) := by
    cases hO; exact ⟨fun _ => rfl, fun _ _ => by simp, fun _ _ => rfl, fun _ _ => rfl, fun _ _ => rfl, fun _ _ => rfl, fun _ _ => rfl, fun _ _ => rfl, fun _ _ => rfl, fun _ _ => rfl, fun _ _ _ => rfl, fun _ _ _ => rfl, fun _ _ => rfl, fun _ => rfl, fun _ _ => rfl, fun _ => rfl, fun _ _ => rfl, fun _ => rfl⟩
  clear hO
  conv => cbv
  repeat' (first | refine brt (fun h => ?_) (fun h => ?_) | refine brf (fun h => ?_) (fun h => ?_) | refine br (fun h => ?_) (fun h => ?_)) <;> (try rw [h]) <;> conv => cbv
  · first | refine .inl ⟨_, hc, ?_⟩ | refine ⟨_, hc, ?_⟩
    rintro r _ ⟨v, hv, rfl⟩ -
    conv => cbv
    refine ⟨by simp, Or.inr ⟨by simp [PV.blks], hQ _ _ ?_⟩⟩
    rw [f_seq] at h
    exact ⟨_, by rw [h, hv]; simp, rfl⟩
  · refine ⟨by simp, Or.inr ⟨by simp [PV.blks], hQ _ _ ?_⟩⟩
    rw [f_seq] at h
    exact ⟨_, by rw [h]; simp, rfl⟩

theorem ac78 (a b : Tg) (ha : a.ok) : AC P 78 [.pv a.av, .pv b.av] [] (fun r _ => ∃ v, v = Tg.beq a b ∧ r = .lit (.bool v)) := by
  obtain ⟨na, ⟨ka, xs⟩⟩ := a
  obtain ⟨nb, ⟨kb, ys⟩⟩ := b
  have hc := ac49 hP ⟨ka, xs⟩ ha.2 ⟨kb, ys⟩
  simp only [Tg.av, Ty.fav, Tg.beq, Ty.av] at hc ⊢
  generalize Ty.avL xs = X at *
  generalize Ty.avL ys = Y at *
  refine AC.introQ hP.tab hP.mixed hP.f78 rfl (by kernel_rfl) [] fun O Q hO hQ => ?_
  obtain ⟨len, nth, sub, app, fits, add, min_, mul, quo, rem, and, or, xor, shl, shr, eq, lt, le, wrap, imax, imin, seq, sapp, sfits, ssize, sat, ssub, bytes, sbytes, erase, mfits, rep, inB, olay, mull, tonat, inM⟩ := O
  obtain ⟨f_len, f_nth, f_add, f_sub, f_eq, f_lt, f_le, f_wrap, f_mfits, f_rep, f_inB, f_olay, f_mull, f_tonat, f_inM, f_erase, f_seq, f_ssize⟩ : (∀ es, len es = es.length) ∧ (∀ es (i : Nat), nth es (Int.ofNat i) = es[i]?) ∧ (∀ a b, add .i64 a b = IntKind.i64.wrap (a + b)) ∧ (∀ a b, min_ .i64 a b = IntKind.i64.wrap (a - b)) ∧
      (∀ a b, eq a b = (a == b)) ∧ (∀ a b, lt a b = decide (a < b)) ∧ (∀ a b, le a b = decide (a ≤ b)) ∧ (∀ k a, wrap k a = IntKind.wrap k a) ∧
      (∀ n b, mfits n b = (0 ≤ n ∧ n * b ≤ 140737488355328 ∧ n ≤ 4611686018427387904)) ∧ (∀ n z, rep n z = (List.replicate n.toNat z).flatten) ∧ (∀ cs off n, inB cs off n = (off + n ≤ cs.length)) ∧ (∀ cs off vs, olay cs off vs = lay cs off vs) ∧
      (∀ n sz, mull n sz = n.toNat * sz) ∧ (∀ n, tonat n = n.toNat) ∧ (∀ n l, inM n l = decide (0 ≤ n ∧ n < (l : Int))) ∧ (∀ r, erase r = PV.erase r) ∧
      (∀ x y, seq x y = (x.toList == y.toList)) ∧ (∀ x, ssize x = x.size) := by
    cases hO; exact ⟨fun _ => rfl, fun _ _ => by simp, fun _ _ => rfl, fun _ _ => rfl, fun _ _ => rfl, fun _ _ => rfl, fun _ _ => rfl, fun _ _ => rfl, fun _ _ => rfl, fun _ _ => rfl, fun _ _ _ => rfl, fun _ _ _ => rfl, fun _ _ => rfl, fun _ => rfl, fun _ _ => rfl, fun _ => rfl, fun _ _ => rfl, fun _ => rfl⟩
  clear hO
  conv => cbv
  repeat' (first | refine brt (fun h => ?_) (fun h => ?_) | refine brf (fun h => ?_) (fun h => ?_) | refine br (fun h => ?_) (fun h => ?_)) <;> (try rw [h]) <;> conv => cbv
  · refine ⟨by simp, Or.inr ⟨by simp [PV.blks], hQ _ _ ?_⟩⟩
    rw [f_seq] at h
    refine ⟨_, ?_, rfl⟩
    cases q : na.toList == nb.toList
    · simp
    · rw [q] at h; simp at h
  · have hk : (na.toList == nb.toList) = true := by
      rw [f_seq] at h
      cases q : na.toList == nb.toList
      · rw [q] at h; simp at h
      · rfl
    first | refine .inl ⟨_, hc, ?_⟩ | refine ⟨_, hc, ?_⟩
    rintro r _ ⟨v, hv, rfl⟩ -
    conv => cbv
    cases v
    · conv => cbv
      refine ⟨by simp, Or.inr ⟨by simp [PV.blks], hQ _ _ ?_⟩⟩
      exact ⟨_, by rw [← hv]; simp, rfl⟩
    · conv => cbv
      refine ⟨by simp, Or.inr ⟨by simp [PV.blks], hQ _ _ ?_⟩⟩
      exact ⟨_, by rw [← hv, hk]; rfl, rfl⟩

theorem ac73 (a : Tg) (ha : a.ok) (l : Int) (h0 : 0 ≤ l) (h1 : l ≤ 1048576) : AC P 73 [.pv a.av, .pv (.lit (.int .i64 l))] [] (fun r _ => ∃ v, v = szR (Tg.sz a) l ∧ r = .lit (.int .i64 v)) := by
  obtain ⟨na, ⟨ka, xs⟩⟩ := a
  have hn : na.size ≤ 9223372036854775807 := ha.1
  have hc := ac40 hP ⟨ka, xs⟩ ha.2
  simp only [Tg.av, Ty.fav, Tg.sz, Ty.av] at hc ⊢
  generalize Ty.avL xs = X at *
  generalize (Ty.mk ka xs).sz = T at *
  obtain ⟨m, hm⟩ : ∃ m : Int, m = l - na.size := ⟨_, rfl⟩
  refine AC.introQ hP.tab hP.mixed hP.f73 rfl (by kernel_rfl) [] fun O Q hO hQ => ?_
  obtain ⟨len, nth, sub, app, fits, add, min_, mul, quo, rem, and, or, xor, shl, shr, eq, lt, le, wrap, imax, imin, seq, sapp, sfits, ssize, sat, ssub, bytes, sbytes, erase, mfits, rep, inB, olay, mull, tonat, inM⟩ := O
  obtain ⟨f_len, f_nth, f_add, f_sub, f_eq, f_lt, f_le, f_wrap, f_mfits, f_rep, f_inB, f_olay, f_mull, f_tonat, f_inM, f_erase, f_seq, f_ssize⟩ : (∀ es, len es = es.length) ∧ (∀ es (i : Nat), nth es (Int.ofNat i) = es[i]?) ∧ (∀ a b, add .i64 a b = IntKind.i64.wrap (a + b)) ∧ (∀ a b, min_ .i64 a b = IntKind.i64.wrap (a - b)) ∧
      (∀ a b, eq a b = (a == b)) ∧ (∀ a b, lt a b = decide (a < b)) ∧ (∀ a b, le a b = decide (a ≤ b)) ∧ (∀ k a, wrap k a = IntKind.wrap k a) ∧
      (∀ n b, mfits n b = (0 ≤ n ∧ n * b ≤ 140737488355328 ∧ n ≤ 4611686018427387904)) ∧ (∀ n z, rep n z = (List.replicate n.toNat z).flatten) ∧ (∀ cs off n, inB cs off n = (off + n ≤ cs.length)) ∧ (∀ cs off vs, olay cs off vs = lay cs off vs) ∧
      (∀ n sz, mull n sz = n.toNat * sz) ∧ (∀ n, tonat n = n.toNat) ∧ (∀ n l, inM n l = decide (0 ≤ n ∧ n < (l : Int))) ∧ (∀ r, erase r = PV.erase r) ∧
      (∀ x y, seq x y = (x.toList == y.toList)) ∧ (∀ x, ssize x = x.size) := by
    cases hO; exact ⟨fun _ => rfl, fun _ _ => by simp, fun _ _ => rfl, fun _ _ => rfl, fun _ _ => rfl, fun _ _ => rfl, fun _ _ => rfl, fun _ _ => rfl, fun _ _ => rfl, fun _ _ => rfl, fun _ _ _ => rfl, fun _ _ _ => rfl, fun _ _ => rfl, fun _ => rfl, fun _ _ => rfl, fun _ => rfl, fun _ _ => rfl, fun _ => rfl⟩
  clear hO
  conv => cbv
  have e0 : min_ .i64 l (Int.ofNat (ssize na)) = m := by
    rw [f_sub, f_ssize, hm, wrap_id (by simp; omega) (by simp; omega)]; rfl
  rw [e0]
  conv => cbv
  refine br (fun h => ?_) (fun h => ?_) <;> (try rw [h]) <;> conv => cbv
  · refine ⟨by simp, Or.inr ⟨by simp [PV.blks], hQ _ _ ?_⟩⟩
    rw [f_lt] at h
    simp only [decide_eq_true_eq] at h
    exact ⟨_, by rw [szR, if_neg (by omega)], rfl⟩
  · rw [f_lt] at h
    simp only [decide_eq_false_iff_not] at h
    have hc := hc m (by omega) (by omega)
    first | refine .inl ⟨_, hc, ?_⟩ | refine ⟨_, hc, ?_⟩
    rintro r _ ⟨v, hv, rfl⟩ -
    conv => cbv
    refine br (fun h2 => ?_) (fun h2 => ?_) <;> (try rw [h2]) <;> conv => cbv
    · refine ⟨by simp, Or.inr ⟨by simp [PV.blks], hQ _ _ ?_⟩⟩
      rw [f_lt] at h2
      simp only [decide_eq_true_eq] at h2
      refine ⟨_, ?_, rfl⟩
      rw [szR] at hv ⊢
      split at hv
      · omega
      · rw [if_neg (by omega)]
    · refine ⟨by simp, Or.inr ⟨by simp [PV.blks], hQ _ _ ?_⟩⟩
      rw [f_lt] at h2
      simp only [decide_eq_false_iff_not] at h2
      refine ⟨_, ?_, rfl⟩
      rw [szR] at hv ⊢
      split at hv
      · rw [if_pos (by omega)]; omega
      · omega

theorem ac75 (a : Tg) (hs : a.sz ≤ 1048576) : AC P 75 [.pv a.av] [] (fun r _ => r = a.av) := by
  have he := Tg.erase a
  obtain ⟨na, ⟨ka, xs⟩⟩ := a
  have hc := ac44 hP ⟨ka, xs⟩ (by simp only [Tg.sz] at hs; omega)
  simp only [Tg.av, Ty.fav, Ty.av] at hc he ⊢
  generalize Ty.avL xs = X at *
  refine AC.introQ hP.tab hP.mixed hP.f75 rfl (by kernel_rfl) [] fun O Q hO hQ => ?_
  obtain ⟨len, nth, sub, app, fits, add, min_, mul, quo, rem, and, or, xor, shl, shr, eq, lt, le, wrap, imax, imin, seq, sapp, sfits, ssize, sat, ssub, bytes, sbytes, erase, mfits, rep, inB, olay, mull, tonat, inM⟩ := O
  obtain ⟨f_len, f_nth, f_add, f_sub, f_eq, f_lt, f_le, f_wrap, f_mfits, f_rep, f_inB, f_olay, f_mull, f_tonat, f_inM, f_erase, f_seq, f_ssize⟩ : (∀ es, len es = es.length) ∧ (∀ es (i : Nat), nth es (Int.ofNat i) = es[i]?) ∧ (∀ a b, add .i64 a b = IntKind.i64.wrap (a + b)) ∧ (∀ a b, min_ .i64 a b = IntKind.i64.wrap (a - b)) ∧
      (∀ a b, eq a b = (a == b)) ∧ (∀ a b, lt a b = decide (a < b)) ∧ (∀ a b, le a b = decide (a ≤ b)) ∧ (∀ k a, wrap k a = IntKind.wrap k a) ∧
      (∀ n b, mfits n b = (0 ≤ n ∧ n * b ≤ 140737488355328 ∧ n ≤ 4611686018427387904)) ∧ (∀ n z, rep n z = (List.replicate n.toNat z).flatten) ∧ (∀ cs off n, inB cs off n = (off + n ≤ cs.length)) ∧ (∀ cs off vs, olay cs off vs = lay cs off vs) ∧
      (∀ n sz, mull n sz = n.toNat * sz) ∧ (∀ n, tonat n = n.toNat) ∧ (∀ n l, inM n l = decide (0 ≤ n ∧ n < (l : Int))) ∧ (∀ r, erase r = PV.erase r) ∧
      (∀ x y, seq x y = (x.toList == y.toList)) ∧ (∀ x, ssize x = x.size) := by
    cases hO; exact ⟨fun _ => rfl, fun _ _ => by simp, fun _ _ => rfl, fun _ _ => rfl, fun _ _ => rfl, fun _ _ => rfl, fun _ _ => rfl, fun _ _ => rfl, fun _ _ => rfl, fun _ _ => rfl, fun _ _ _ => rfl, fun _ _ _ => rfl, fun _ _ => rfl, fun _ => rfl, fun _ _ => rfl, fun _ => rfl, fun _ _ => rfl, fun _ => rfl⟩
  clear hO
  conv => cbv
  first | refine .inl ⟨_, hc, ?_⟩ | refine ⟨_, hc, ?_⟩
  rintro r _ rfl -
  conv => cbv
  refine ⟨by simp, Or.inl (hQ _ _ ?_)⟩
  show erase _ = _
  rw [f_erase]
  exact he

theorem ac42 (xs ys : List Tg) (hlx : xs.length ≤ 9223372036854775807) (hok : ∀ x ∈ xs, Tg.ok x) :
    AC P 42 [.pv (.sl 3 (xs.map Tg.av)), .pv (.sl 3 (ys.map Tg.av))] [] (fun r _ => ∃ v, v = beqL Tg.beq xs ys ∧ r = .lit (.bool v)) := by
  have gx : ∀ i, (xs.map Tg.av)[i]? = (xs[i]?).map Tg.av := fun i => List.getElem?_map
  have lx : (xs.map Tg.av).length = xs.length := List.length_map _
  have gy : ∀ i, (ys.map Tg.av)[i]? = (ys[i]?).map Tg.av := fun i => List.getElem?_map
  have ly : (ys.map Tg.av).length = ys.length := List.length_map _
  generalize xs.map Tg.av = X at *
  generalize ys.map Tg.av = Y at *
  refine AC.introQ hP.tab hP.mixed hP.f42 rfl (by kernel_rfl) [] fun O Q hO hQ => ?_
  obtain ⟨len, nth, sub, app, fits, add, min_, mul, quo, rem, and, or, xor, shl, shr, eq, lt, le, wrap, imax, imin, seq, sapp, sfits, ssize, sat, ssub, bytes, sbytes, erase, mfits, rep, inB, olay, mull, tonat, inM⟩ := O
  obtain ⟨f_len, f_nth, f_add, f_sub, f_eq, f_lt, f_le, f_wrap, f_mfits, f_rep, f_inB, f_olay, f_mull, f_tonat, f_inM, f_erase, f_seq, f_ssize⟩ : (∀ es, len es = es.length) ∧ (∀ es (i : Nat), nth es (Int.ofNat i) = es[i]?) ∧ (∀ a b, add .i64 a b = IntKind.i64.wrap (a + b)) ∧ (∀ a b, min_ .i64 a b = IntKind.i64.wrap (a - b)) ∧
      (∀ a b, eq a b = (a == b)) ∧ (∀ a b, lt a b = decide (a < b)) ∧ (∀ a b, le a b = decide (a ≤ b)) ∧ (∀ k a, wrap k a = IntKind.wrap k a) ∧
      (∀ n b, mfits n b = (0 ≤ n ∧ n * b ≤ 140737488355328 ∧ n ≤ 4611686018427387904)) ∧ (∀ n z, rep n z = (List.replicate n.toNat z).flatten) ∧ (∀ cs off n, inB cs off n = (off + n ≤ cs.length)) ∧ (∀ cs off vs, olay cs off vs = lay cs off vs) ∧
      (∀ n sz, mull n sz = n.toNat * sz) ∧ (∀ n, tonat n = n.toNat) ∧ (∀ n l, inM n l = decide (0 ≤ n ∧ n < (l : Int))) ∧ (∀ r, erase r = PV.erase r) ∧
      (∀ x y, seq x y = (x.toList == y.toList)) ∧ (∀ x, ssize x = x.size) := by
    cases hO; exact ⟨fun _ => rfl, fun _ _ => by simp, fun _ _ => rfl, fun _ _ => rfl, fun _ _ => rfl, fun _ _ => rfl, fun _ _ => rfl, fun _ _ => rfl, fun _ _ => rfl, fun _ _ => rfl, fun _ _ _ => rfl, fun _ _ _ => rfl, fun _ _ => rfl, fun _ => rfl, fun _ _ => rfl, fun _ => rfl, fun _ _ => rfl, fun _ => rfl⟩
  clear hO
  ((conv => cbv); try (first | (refine ordI [0, 1, 2, 3, 4, 5, 6, 7, 8, 9, 10, 11, 12, 13, 14, 15, 16, 17, 18, 19, 20, 21, 22, 23, 24] rfl (by kernel_rfl) ?_; conv => cbv)))
  repeat' (first | refine brt (fun h => ?_) (fun h => ?_) | refine brf (fun h => ?_) (fun h => ?_) | refine br (fun h => ?_) (fun h => ?_)) <;> (try rw [h]) <;> ((conv => cbv); try (first | (refine ordI [0, 1, 2, 3, 4, 5, 6, 7, 8, 9, 10, 11, 12, 13, 14, 15, 16, 17, 18, 19, 20, 21, 22, 23, 24] rfl (by kernel_rfl) ?_; conv => cbv)))
  · refine ⟨by simp, Or.inr ⟨by simp [PV.blks], hQ _ _ ?_⟩⟩
    refine ⟨_, ?_, rfl⟩
    rw [f_eq, f_len, f_len] at h
    cases hb : beqL Tg.beq xs ys
    · simp
    · have := beqL_len hb
      rw [lx, ly, this] at h
      simp at h
  · have hlen : xs.length = ys.length := by
      rw [f_eq, f_len, f_len, lx, ly] at h
      by_cases q : (Int.ofNat xs.length == Int.ofNat ys.length) = true
      · simp at q; omega
      · simp only [Bool.not_eq_true] at q; rw [q] at h; simp at h
    refine loopE (ι := Nat) (fun i => ⟨mkT 42 [(0, .pv (.sl 3 X)), (1, .pv (.sl 3 Y)), (4, .pv (.lit (.bool false))), (5, .pv (.lit (.int .i64 (Int.ofNat i))))], [], [], fun _ => False⟩)
      (fun i => i ≤ xs.length ∧ ∀ (j : Nat) x y, j < i → xs[j]? = some x → ys[j]? = some y → Tg.beq x y = true) (fun i => xs.length - i) 0 ⟨Nat.zero_le _, fun j _ _ hj => by omega⟩ ?_ ?_
    · ((conv => cbv); try (first | (refine ordI [0, 1, 2, 3, 4, 5, 6, 7, 8, 9, 10, 11, 12, 13, 14, 15, 16, 17, 18, 19, 20, 21, 22, 23, 24] rfl (by kernel_rfl) ?_; conv => cbv)))
      simp
    · rintro i ⟨hi, hpre⟩ Nx hNx
      ((conv => cbv); try (first | (refine ordI [0, 1, 2, 3, 4, 5, 6, 7, 8, 9, 10, 11, 12, 13, 14, 15, 16, 17, 18, 19, 20, 21, 22, 23, 24] rfl (by kernel_rfl) ?_; conv => cbv)))
      refine br (fun h1 => ?_) (fun h1 => ?_) <;> (try rw [h1]) <;> ((conv => cbv); try (first | (refine ordI [0, 1, 2, 3, 4, 5, 6, 7, 8, 9, 10, 11, 12, 13, 14, 15, 16, 17, 18, 19, 20, 21, 22, 23, 24] rfl (by kernel_rfl) ?_; conv => cbv)))
      · rw [f_lt, f_len, lx] at h1
        have hi' : i < xs.length := by simpa using h1
        have hxi : xs[i]? = some xs[i] := List.getElem?_eq_getElem hi'
        have hyi : ys[i]? = some (ys[i]'(by omega)) := List.getElem?_eq_getElem (by omega)
        have hmem : xs[i] ∈ xs := List.getElem_mem hi'
        have hc := ac41 hP xs[i].ty (hok _ hmem).2 (ys[i]'(by omega)).ty
        have hn1 : nth X (Int.ofNat i) = some (xs[i]).av := by rw [f_nth, gx, hxi]; rfl
        have hn2 : nth Y (Int.ofNat i) = some (ys[i]'(by omega)).av := by rw [f_nth, gy, hyi]; rfl
        have e : add .i64 (Int.ofNat i) 1 = Int.ofNat (i + 1) := by
          rw [f_add]; exact inc hi' hlx
        generalize xs[i] = x at *
        generalize ys[i]'_ = y at *
        obtain ⟨B, hB⟩ : ∃ B, B = Tg.beq x y := ⟨_, rfl⟩
        have hend : B = false → beqL Tg.beq xs ys = false := fun q => by
          cases hb : beqL Tg.beq xs ys
          · rfl
          · have := beqL_at hb hxi hyi
            rw [← hB, q] at this; cases this
        have hgo : B = true → ∀ (j : Nat) x y, j < i + 1 → xs[j]? = some x → ys[j]? = some y → Tg.beq x y = true := fun q0 j x y hj g1 g2 => by
          by_cases q : j = i
          · subst q
            rw [hxi] at g1; rw [hyi] at g2
            cases g1; cases g2
            rw [← hB]; exact q0
          · exact hpre j x y (by omega) g1 g2
        rcases x with ⟨nx, ⟨kx, cx⟩⟩
        rcases y with ⟨ny, ⟨ky, cy⟩⟩
        simp only [Tg.av, Ty.fav, Ty.av, Tg.beq] at hn1 hn2 hc hB
        generalize Ty.avL cx = CX at *
        generalize Ty.avL cy = CY at *
        rw [hn1]
        ((conv => cbv); try (first | (refine ordI [0, 1, 2, 3, 4, 5, 6, 7, 8, 9, 10, 11, 12, 13, 14, 15, 16, 17, 18, 19, 20, 21, 22, 23, 24] rfl (by kernel_rfl) ?_; conv => cbv)))
        rw [hn2]
        ((conv => cbv); try (first | (refine ordI [0, 1, 2, 3, 4, 5, 6, 7, 8, 9, 10, 11, 12, 13, 14, 15, 16, 17, 18, 19, 20, 21, 22, 23, 24] rfl (by kernel_rfl) ?_; conv => cbv)))
        cases hs : seq nx ny
        · ((conv => cbv); try (first | (refine ordI [0, 1, 2, 3, 4, 5, 6, 7, 8, 9, 10, 11, 12, 13, 14, 15, 16, 17, 18, 19, 20, 21, 22, 23, 24] rfl (by kernel_rfl) ?_; conv => cbv)))
          refine ⟨by simp, Or.inr ⟨by simp [PV.blks], hQ _ _ ?_⟩⟩
          rw [f_seq] at hs
          exact ⟨_, by rw [hend (by rw [hB, hs]; rfl)], rfl⟩
        · ((conv => cbv); try (first | (refine ordI [0, 1, 2, 3, 4, 5, 6, 7, 8, 9, 10, 11, 12, 13, 14, 15, 16, 17, 18, 19, 20, 21, 22, 23, 24] rfl (by kernel_rfl) ?_; conv => cbv)))
          rw [hn1]
          ((conv => cbv); try (first | (refine ordI [0, 1, 2, 3, 4, 5, 6, 7, 8, 9, 10, 11, 12, 13, 14, 15, 16, 17, 18, 19, 20, 21, 22, 23, 24] rfl (by kernel_rfl) ?_; conv => cbv)))
          rw [hn2]
          ((conv => cbv); try (first | (refine ordI [0, 1, 2, 3, 4, 5, 6, 7, 8, 9, 10, 11, 12, 13, 14, 15, 16, 17, 18, 19, 20, 21, 22, 23, 24] rfl (by kernel_rfl) ?_; conv => cbv)))
          first | refine .inl ⟨_, hc, ?_⟩ | refine ⟨_, hc, ?_⟩
          rintro r _ ⟨v, hv, rfl⟩ -
          ((conv => cbv); try (first | (refine ordI [0, 1, 2, 3, 4, 5, 6, 7, 8, 9, 10, 11, 12, 13, 14, 15, 16, 17, 18, 19, 20, 21, 22, 23, 24] rfl (by kernel_rfl) ?_; conv => cbv)))
          rw [f_seq] at hs
          have hv2 : B = v := by rw [hB, hs, hv]; rfl
          cases v
          · ((conv => cbv); try (first | (refine ordI [0, 1, 2, 3, 4, 5, 6, 7, 8, 9, 10, 11, 12, 13, 14, 15, 16, 17, 18, 19, 20, 21, 22, 23, 24] rfl (by kernel_rfl) ?_; conv => cbv)))
            refine ⟨by simp, Or.inr ⟨by simp [PV.blks], hQ _ _ ?_⟩⟩
            exact ⟨_, by rw [hend hv2], rfl⟩
          · ((conv => cbv); try (first | (refine ordI [0, 1, 2, 3, 4, 5, 6, 7, 8, 9, 10, 11, 12, 13, 14, 15, 16, 17, 18, 19, 20, 21, 22, 23, 24] rfl (by kernel_rfl) ?_; conv => cbv)))
            refine hNx _ (i + 1) ⟨hi', hgo hv2⟩ (by omega) ?_
            ((conv => cbv); try (first | (refine ordI [0, 1, 2, 3, 4, 5, 6, 7, 8, 9, 10, 11, 12, 13, 14, 15, 16, 17, 18, 19, 20, 21, 22, 23, 24] rfl (by kernel_rfl) ?_; conv => cbv)))
            rw [e]
            simp
      · refine ⟨by simp, Or.inr ⟨by simp [PV.blks], hQ _ _ ?_⟩⟩
        rw [f_lt, f_len, lx] at h1
        have hi' : ¬ i < xs.length := by simpa using h1
        have hb := beqL_of (eq := Tg.beq) hlen fun j x y h1 h2 => hpre j x y (by have := (List.getElem?_eq_some_iff.1 h1).1; omega) h1 h2
        exact ⟨_, by simp [hb], rfl⟩
end Go.Proofs.Ytikjhmifgedlbaa
