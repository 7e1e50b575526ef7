/- Types, second part: equality, size and copies of types. -/
import Derived.Test.YtikjhmifgedlbaaTa
set_option linter.unusedSimpArgs false
set_option linter.unusedVariables false
namespace Go.Proofs.Ytikjhmifgedlbaa
open Go.Ax
variable {P : Go.Program} (hP : IsP P)
include hP

theorem ac47s (ka kb : Int) (xs ys : List Ty) (hlx : xs.length ≤ 9223372036854775807) (hcall : ∀ x ∈ xs, ∀ y, AC P 47 [.pv x.av, .pv (Ty.av y)] [] (fun r _ => ∃ v, v = Ty.beq x y ∧ r = .lit (.bool v))) :
    AC P 47 [.pv (Ty.mk ka xs).av, .pv (Ty.mk kb ys).av] [] (fun r _ => ∃ v, v = Ty.beq (.mk ka xs) (.mk kb ys) ∧ r = .lit (.bool v)) := by
  have h77 := ac77 hP xs ys hlx hcall
  simp only [Ty.av, Ty.beq]
  generalize Ty.avL xs = X at *
  generalize Ty.avL ys = Y at *
  refine AC.introQ hP.tab hP.mixed hP.f47 rfl (by kernel_rfl) [] fun O Q hO hQ => ?_
  obtain ⟨len, nth, sub, app, fits, add, min_, mul, quo, rem, and, or, xor, shl, shr, eq, lt, le, wrap, imax, imin, seq, sapp, sfits, ssize, sat, ssub, bytes, sbytes, erase, mfits, rep, inB, olay, mull, tonat, inM⟩ := O
  obtain ⟨f_len, f_nth, f_add, f_sub, f_eq, f_lt, f_le, f_wrap, f_mfits, f_rep, f_inB, f_olay, f_mull, f_tonat, f_inM, f_erase, f_seq, f_ssize⟩ : (∀ es, len es = es.length) ∧ (∀ es (i : Nat), nth es (Int.ofNat i) = es[i]?) ∧ (∀ a b, add .i64 a b = IntKind.i64.wrap (a + b)) ∧ (∀ a b, min_ .i64 a b = IntKind.i64.wrap (a - b)) ∧
      (∀ a b, eq a b = (a == b)) ∧ (∀ a b, lt a b = decide (a < b)) ∧ (∀ a b, le a b = decide (a ≤ b)) ∧ (∀ k a, wrap k a = IntKind.wrap k a) ∧
      (∀ n b, mfits n b = (0 ≤ n ∧ n * b ≤ 140737488355328 ∧ n ≤ 4611686018427387904)) ∧ (∀ n z, rep n z = (List.replicate n.toNat z).flatten) ∧ (∀ cs off n, inB cs off n = (off + n ≤ cs.length)) ∧ (∀ cs off vs, olay cs off vs = lay cs off vs) ∧
      (∀ n sz, mull n sz = n.toNat * sz) ∧ (∀ n, tonat n = n.toNat) ∧ (∀ n l, inM n l = decide (0 ≤ n ∧ n < (l : Int))) ∧ (∀ r, erase r = PV.erase r) ∧
      (∀ x y, seq x y = (x.toList == y.toList)) ∧ (∀ x, ssize x = x.size) := by
    cases hO; exact ⟨fun _ => rfl, fun _ _ => by simp, fun _ _ => rfl, fun _ _ => rfl, fun _ _ => rfl, fun _ _ => rfl, fun _ _ => rfl, fun _ _ => rfl, fun _ _ => rfl, fun _ _ => rfl, fun _ _ _ => rfl, fun _ _ _ => rfl, fun _ _ => rfl, fun _ => rfl, fun _ _ => rfl, fun _ => rfl, fun _ _ => rfl, fun _ => rfl⟩
  clear hO
  conv => cbv
  repeat' (first | refine brt (fun h => ?_) (fun h => ?_) | refine brf (fun h => ?_) (fun h => ?_) | refine br (fun h => ?_) (fun h => ?_)) <;> (try rw [h]) <;> conv => cbv
  · refine .inl ⟨_, h77, ?_⟩
    rintro r _ ⟨v, hv, rfl⟩ -
    conv => cbv
    refine ⟨by simp, Or.inr ⟨by simp [PV.blks], hQ _ _ ?_⟩⟩
    rw [f_eq] at h
    exact ⟨_, by rw [h, hv]; simp, rfl⟩
  · refine ⟨by simp, Or.inr ⟨by simp [PV.blks], hQ _ _ ?_⟩⟩
    rw [f_eq] at h
    exact ⟨_, by rw [h]; simp, rfl⟩

theorem ac41s (ka kb : Int) (xs ys : List Ty) (hlx : xs.length ≤ 9223372036854775807) (hcall : ∀ x ∈ xs, ∀ y, AC P 41 [.pv x.av, .pv (Ty.av y)] [] (fun r _ => ∃ v, v = Ty.beq x y ∧ r = .lit (.bool v))) :
    AC P 41 [.pv (Ty.mk ka xs).av, .pv (Ty.mk kb ys).av] [] (fun r _ => ∃ v, v = Ty.beq (.mk ka xs) (.mk kb ys) ∧ r = .lit (.bool v)) := by
  simp only [Ty.av, Ty.beq]
  have gx := Ty.avL_get xs
  have gy := Ty.avL_get ys
  have lx := Ty.avL_length xs
  have ly := Ty.avL_length ys
  generalize Ty.avL xs = X at *
  generalize Ty.avL ys = Y at *
  refine AC.introQ hP.tab hP.mixed hP.f41 rfl (by kernel_rfl) [] fun O Q hO hQ => ?_
  obtain ⟨len, nth, sub, app, fits, add, min_, mul, quo, rem, and, or, xor, shl, shr, eq, lt, le, wrap, imax, imin, seq, sapp, sfits, ssize, sat, ssub, bytes, sbytes, erase, mfits, rep, inB, olay, mull, tonat, inM⟩ := O
  obtain ⟨f_len, f_nth, f_add, f_sub, f_eq, f_lt, f_le, f_wrap, f_mfits, f_rep, f_inB, f_olay, f_mull, f_tonat, f_inM, f_erase, f_seq, f_ssize⟩ : (∀ es, len es = es.length) ∧ (∀ es (i : Nat), nth es (Int.ofNat i) = es[i]?) ∧ (∀ a b, add .i64 a b = IntKind.i64.wrap (a + b)) ∧ (∀ a b, min_ .i64 a b = IntKind.i64.wrap (a - b)) ∧
      (∀ a b, eq a b = (a == b)) ∧ (∀ a b, lt a b = decide (a < b)) ∧ (∀ a b, le a b = decide (a ≤ b)) ∧ (∀ k a, wrap k a = IntKind.wrap k a) ∧
      (∀ n b, mfits n b = (0 ≤ n ∧ n * b ≤ 140737488355328 ∧ n ≤ 4611686018427387904)) ∧ (∀ n z, rep n z = (List.replicate n.toNat z).flatten) ∧ (∀ cs off n, inB cs off n = (off + n ≤ cs.length)) ∧ (∀ cs off vs, olay cs off vs = lay cs off vs) ∧
      (∀ n sz, mull n sz = n.toNat * sz) ∧ (∀ n, tonat n = n.toNat) ∧ (∀ n l, inM n l = decide (0 ≤ n ∧ n < (l : Int))) ∧ (∀ r, erase r = PV.erase r) ∧
      (∀ x y, seq x y = (x.toList == y.toList)) ∧ (∀ x, ssize x = x.size) := by
    cases hO; exact ⟨fun _ => rfl, fun _ _ => by simp, fun _ _ => rfl, fun _ _ => rfl, fun _ _ => rfl, fun _ _ => rfl, fun _ _ => rfl, fun _ _ => rfl, fun _ _ => rfl, fun _ _ => rfl, fun _ _ _ => rfl, fun _ _ _ => rfl, fun _ _ => rfl, fun _ => rfl, fun _ _ => rfl, fun _ => rfl, fun _ _ => rfl, fun _ => rfl⟩
  clear hO
  ((conv => cbv); try (first | (refine ordI [0, 1, 2, 3, 4, 5, 6, 7, 8, 9, 10, 11] rfl (by kernel_rfl) ?_; conv => cbv)))
  repeat' (first | refine brt (fun h => ?_) (fun h => ?_) | refine brf (fun h => ?_) (fun h => ?_) | refine br (fun h => ?_) (fun h => ?_)) <;> (try rw [h]) <;> ((conv => cbv); try (first | (refine ordI [0, 1, 2, 3, 4, 5, 6, 7, 8, 9, 10, 11] rfl (by kernel_rfl) ?_; conv => cbv)))
  · refine ⟨by simp, Or.inr ⟨by simp [PV.blks], hQ _ _ ?_⟩⟩
    refine ⟨_, ?_, rfl⟩
    rw [f_eq, f_len, f_len] at h
    cases hb : Ty.beqL xs ys
    · simp
    · have := Ty.beqL_len hb
      rw [lx, ly, this] at h
      simp at h
  · have hlen : xs.length = ys.length := by
      rw [f_eq, f_len, f_len, lx, ly] at h
      by_cases q : (Int.ofNat xs.length == Int.ofNat ys.length) = true
      · simp at q; omega
      · simp only [Bool.not_eq_true] at q; rw [q] at h; simp at h
    have hk : (ka == kb) = true := by
      rename_i g
      rw [f_eq] at g
      cases q : ka == kb
      · rw [q] at g; simp at g
      · rfl
    refine loopE (ι := Nat) (fun i => ⟨mkT 39 [(0, .pv (.agg [.lit (.int .i64 ka), .sl 2 X])), (1, .pv (.agg [.lit (.int .i64 kb), .sl 2 Y])), (2, .box 2 0), (3, .box 3 0), (4, .pv (.lit (.bool false))), (5, .pv (.lit (.int .i64 (Int.ofNat i))))], [(2, [.pv (.lit (.int .i64 ka)), .pv (.sl 2 X)]), (3, [.pv (.lit (.int .i64 kb)), .pv (.sl 2 Y)])], [], fun _ => False⟩)
      (fun i => i ≤ xs.length ∧ ∀ (j : Nat) x y, j < i → xs[j]? = some x → ys[j]? = some y → Ty.beq x y = true) (fun i => xs.length - i) 0 ⟨Nat.zero_le _, fun j _ _ hj => by omega⟩ ?_ ?_
    · ((conv => cbv); try (first | (refine ordI [0, 1, 2, 3, 4, 5, 6, 7, 8, 9, 10, 11] rfl (by kernel_rfl) ?_; conv => cbv)))
      simp
    · rintro i ⟨hi, hpre⟩ Nx hNx
      ((conv => cbv); try (first | (refine ordI [0, 1, 2, 3, 4, 5, 6, 7, 8, 9, 10, 11] rfl (by kernel_rfl) ?_; conv => cbv)))
      refine br (fun h1 => ?_) (fun h1 => ?_) <;> (try rw [h1]) <;> ((conv => cbv); try (first | (refine ordI [0, 1, 2, 3, 4, 5, 6, 7, 8, 9, 10, 11] rfl (by kernel_rfl) ?_; conv => cbv)))
      · rw [f_lt, f_len, lx] at h1
        have hi' : i < xs.length := by simpa using h1
        have hxi : xs[i]? = some xs[i] := List.getElem?_eq_getElem hi'
        have hyi : ys[i]? = some (ys[i]'(by omega)) := List.getElem?_eq_getElem (by omega)
        have hmem : xs[i] ∈ xs := List.getElem_mem hi'
        have hc := hcall _ hmem (ys[i]'(by omega))
        have hn1 : nth X (Int.ofNat i) = some (xs[i]).av := by rw [f_nth, gx, hxi]; rfl
        have hn2 : nth Y (Int.ofNat i) = some (ys[i]'(by omega)).av := by rw [f_nth, gy, hyi]; rfl
        generalize xs[i] = x at *
        generalize ys[i]'_ = y at *
        rcases x with ⟨kx, cx⟩
        rcases y with ⟨ky, cy⟩
        simp only [Ty.av] at hn1 hn2 hc
        generalize Ty.avL cx = CX at *
        generalize Ty.avL cy = CY at *
        rw [hn1]
        ((conv => cbv); try (first | (refine ordI [0, 1, 2, 3, 4, 5, 6, 7, 8, 9, 10, 11] rfl (by kernel_rfl) ?_; conv => cbv)))
        rw [hn2]
        ((conv => cbv); try (first | (refine ordI [0, 1, 2, 3, 4, 5, 6, 7, 8, 9, 10, 11] rfl (by kernel_rfl) ?_; conv => cbv)))
        first | refine .inl ⟨_, hc, ?_⟩ | refine ⟨_, hc, ?_⟩
        rintro r _ ⟨v, hv, rfl⟩ -
        ((conv => cbv); try (first | (refine ordI [0, 1, 2, 3, 4, 5, 6, 7, 8, 9, 10, 11] rfl (by kernel_rfl) ?_; conv => cbv)))
        cases v
        · ((conv => cbv); try (first | (refine ordI [0, 1, 2, 3, 4, 5, 6, 7, 8, 9, 10, 11] rfl (by kernel_rfl) ?_; conv => cbv)))
          refine ⟨by simp, Or.inr ⟨by simp [PV.blks], hQ _ _ ?_⟩⟩
          refine ⟨_, ?_, rfl⟩
          cases hb : Ty.beqL xs ys
          · simp
          · have := Ty.beqL_at hb hxi hyi
            rw [← hv] at this; cases this
        · ((conv => cbv); try (first | (refine ordI [0, 1, 2, 3, 4, 5, 6, 7, 8, 9, 10, 11] rfl (by kernel_rfl) ?_; conv => cbv)))
          refine hNx _ (i + 1) ⟨hi', ?_⟩ (by omega) ?_
          · intro j x y hj g1 g2
            by_cases q : j = i
            · subst q
              rw [hxi] at g1; rw [hyi] at g2
              cases g1; cases g2
              exact hv.symm
            · exact hpre j x y (by omega) g1 g2
          · have e : add .i64 (Int.ofNat i) 1 = Int.ofNat (i + 1) := by
              rw [f_add, wrap_id (by simp; omega) (by simp; omega)]; rfl
            ((conv => cbv); try (first | (refine ordI [0, 1, 2, 3, 4, 5, 6, 7, 8, 9, 10, 11] rfl (by kernel_rfl) ?_; conv => cbv)))
            rw [e]
            simp
      · refine ⟨by simp, Or.inr ⟨by simp [PV.blks], hQ _ _ ?_⟩⟩
        rw [f_lt, f_len, lx] at h1
        have hi' : ¬ i < xs.length := by simpa using h1
        have hb := Ty.beqL_of hlen fun j x y h1 h2 => hpre j x y (by have := (List.getElem?_eq_some_iff.1 h1).1; omega) h1 h2
        exact ⟨_, by simp [hb, hk], rfl⟩
  · refine ⟨by simp, Or.inr ⟨by simp [PV.blks], hQ _ _ ?_⟩⟩
    rw [f_eq] at h
    refine ⟨_, ?_, rfl⟩
    cases q : ka == kb
    · simp
    · rw [q] at h; simp at h

theorem ac79 (xs ys : List Ty) (hlx : xs.length ≤ 9223372036854775807) (hcall : ∀ x ∈ xs, ∀ y, AC P 49 [.pv x.av, .pv (Ty.av y)] [] (fun r _ => ∃ v, v = Ty.beq x y ∧ r = .lit (.bool v))) :
    AC P 79 [.pv (.sl 2 (Ty.avL xs)), .pv (.sl 2 (Ty.avL ys))] [] (fun r _ => ∃ v, v = Ty.beqL xs ys ∧ r = .lit (.bool v)) := by
  have gx := Ty.avL_get xs
  have gy := Ty.avL_get ys
  have lx := Ty.avL_length xs
  have ly := Ty.avL_length ys
  generalize Ty.avL xs = X at *
  generalize Ty.avL ys = Y at *
  refine AC.introQ hP.tab hP.mixed hP.f79 rfl (by kernel_rfl) [] fun O Q hO hQ => ?_
  obtain ⟨len, nth, sub, app, fits, add, min_, mul, quo, rem, and, or, xor, shl, shr, eq, lt, le, wrap, imax, imin, seq, sapp, sfits, ssize, sat, ssub, bytes, sbytes, erase, mfits, rep, inB, olay, mull, tonat, inM⟩ := O
  obtain ⟨f_len, f_nth, f_add, f_sub, f_eq, f_lt, f_le, f_wrap, f_mfits, f_rep, f_inB, f_olay, f_mull, f_tonat, f_inM, f_erase, f_seq, f_ssize⟩ : (∀ es, len es = es.length) ∧ (∀ es (i : Nat), nth es (Int.ofNat i) = es[i]?) ∧ (∀ a b, add .i64 a b = IntKind.i64.wrap (a + b)) ∧ (∀ a b, min_ .i64 a b = IntKind.i64.wrap (a - b)) ∧
      (∀ a b, eq a b = (a == b)) ∧ (∀ a b, lt a b = decide (a < b)) ∧ (∀ a b, le a b = decide (a ≤ b)) ∧ (∀ k a, wrap k a = IntKind.wrap k a) ∧
      (∀ n b, mfits n b = (0 ≤ n ∧ n * b ≤ 140737488355328 ∧ n ≤ 4611686018427387904)) ∧ (∀ n z, rep n z = (List.replicate n.toNat z).flatten) ∧ (∀ cs off n, inB cs off n = (off + n ≤ cs.length)) ∧ (∀ cs off vs, olay cs off vs = lay cs off vs) ∧
      (∀ n sz, mull n sz = n.toNat * sz) ∧ (∀ n, tonat n = n.toNat) ∧ (∀ n l, inM n l = decide (0 ≤ n ∧ n < (l : Int))) ∧ (∀ r, erase r = PV.erase r) ∧
      (∀ x y, seq x y = (x.toList == y.toList)) ∧ (∀ x, ssize x = x.size) := by
    cases hO; exact ⟨fun _ => rfl, fun _ _ => by simp, fun _ _ => rfl, fun _ _ => rfl, fun _ _ => rfl, fun _ _ => rfl, fun _ _ => rfl, fun _ _ => rfl, fun _ _ => rfl, fun _ _ => rfl, fun _ _ _ => rfl, fun _ _ _ => rfl, fun _ _ => rfl, fun _ => rfl, fun _ _ => rfl, fun _ => rfl, fun _ _ => rfl, fun _ => rfl⟩
  clear hO
  ((conv => cbv); try (first | (refine ordI [0, 1, 2, 3, 4, 5, 6, 7, 8, 9] rfl (by kernel_rfl) ?_; conv => cbv)))
  repeat' (first | refine brt (fun h => ?_) (fun h => ?_) | refine brf (fun h => ?_) (fun h => ?_) | refine br (fun h => ?_) (fun h => ?_)) <;> (try rw [h]) <;> ((conv => cbv); try (first | (refine ordI [0, 1, 2, 3, 4, 5, 6, 7, 8, 9] rfl (by kernel_rfl) ?_; conv => cbv)))
  · refine ⟨by simp, Or.inr ⟨by simp [PV.blks], hQ _ _ ?_⟩⟩
    refine ⟨_, ?_, rfl⟩
    rw [f_eq, f_len, f_len] at h
    cases hb : Ty.beqL xs ys
    · simp
    · have := Ty.beqL_len hb
      rw [lx, ly, this] at h
      simp at h
  · have hlen : xs.length = ys.length := by
      rw [f_eq, f_len, f_len, lx, ly] at h
      by_cases q : (Int.ofNat xs.length == Int.ofNat ys.length) = true
      · simp at q; omega
      · simp only [Bool.not_eq_true] at q; rw [q] at h; simp at h
    refine loopE (ι := Nat) (fun i => ⟨mkT 27 [(0, .pv (.sl 2 X)), (1, .pv (.sl 2 Y)), (4, .pv (.lit (.bool false))), (5, .pv (.lit (.int .i64 (Int.ofNat i))))], [], [], fun _ => False⟩)
      (fun i => i ≤ xs.length ∧ ∀ (j : Nat) x y, j < i → xs[j]? = some x → ys[j]? = some y → Ty.beq x y = true) (fun i => xs.length - i) 0 ⟨Nat.zero_le _, fun j _ _ hj => by omega⟩ ?_ ?_
    · ((conv => cbv); try (first | (refine ordI [0, 1, 2, 3, 4, 5, 6, 7, 8, 9] rfl (by kernel_rfl) ?_; conv => cbv)))
      simp
    · rintro i ⟨hi, hpre⟩ Nx hNx
      ((conv => cbv); try (first | (refine ordI [0, 1, 2, 3, 4, 5, 6, 7, 8, 9] rfl (by kernel_rfl) ?_; conv => cbv)))
      refine br (fun h1 => ?_) (fun h1 => ?_) <;> (try rw [h1]) <;> ((conv => cbv); try (first | (refine ordI [0, 1, 2, 3, 4, 5, 6, 7, 8, 9] rfl (by kernel_rfl) ?_; conv => cbv)))
      · rw [f_lt, f_len, lx] at h1
        have hi' : i < xs.length := by simpa using h1
        have hxi : xs[i]? = some xs[i] := List.getElem?_eq_getElem hi'
        have hyi : ys[i]? = some (ys[i]'(by omega)) := List.getElem?_eq_getElem (by omega)
        have hmem : xs[i] ∈ xs := List.getElem_mem hi'
        have hc := hcall _ hmem (ys[i]'(by omega))
        have hn1 : nth X (Int.ofNat i) = some (xs[i]).av := by rw [f_nth, gx, hxi]; rfl
        have hn2 : nth Y (Int.ofNat i) = some (ys[i]'(by omega)).av := by rw [f_nth, gy, hyi]; rfl
        generalize xs[i] = x at *
        generalize ys[i]'_ = y at *
        rcases x with ⟨kx, cx⟩
        rcases y with ⟨ky, cy⟩
        simp only [Ty.av] at hn1 hn2 hc
        generalize Ty.avL cx = CX at *
        generalize Ty.avL cy = CY at *
        rw [hn1]
        ((conv => cbv); try (first | (refine ordI [0, 1, 2, 3, 4, 5, 6, 7, 8, 9] rfl (by kernel_rfl) ?_; conv => cbv)))
        rw [hn2]
        ((conv => cbv); try (first | (refine ordI [0, 1, 2, 3, 4, 5, 6, 7, 8, 9] rfl (by kernel_rfl) ?_; conv => cbv)))
        first | refine .inl ⟨_, hc, ?_⟩ | refine ⟨_, hc, ?_⟩
        rintro r _ ⟨v, hv, rfl⟩ -
        ((conv => cbv); try (first | (refine ordI [0, 1, 2, 3, 4, 5, 6, 7, 8, 9] rfl (by kernel_rfl) ?_; conv => cbv)))
        cases v
        · ((conv => cbv); try (first | (refine ordI [0, 1, 2, 3, 4, 5, 6, 7, 8, 9] rfl (by kernel_rfl) ?_; conv => cbv)))
          refine ⟨by simp, Or.inr ⟨by simp [PV.blks], hQ _ _ ?_⟩⟩
          refine ⟨_, ?_, rfl⟩
          cases hb : Ty.beqL xs ys
          · simp
          · have := Ty.beqL_at hb hxi hyi
            rw [← hv] at this; cases this
        · ((conv => cbv); try (first | (refine ordI [0, 1, 2, 3, 4, 5, 6, 7, 8, 9] rfl (by kernel_rfl) ?_; conv => cbv)))
          refine hNx _ (i + 1) ⟨hi', ?_⟩ (by omega) ?_
          · intro j x y hj g1 g2
            by_cases q : j = i
            · subst q
              rw [hxi] at g1; rw [hyi] at g2
              cases g1; cases g2
              exact hv.symm
            · exact hpre j x y (by omega) g1 g2
          · have e : add .i64 (Int.ofNat i) 1 = Int.ofNat (i + 1) := by
              rw [f_add, wrap_id (by simp; omega) (by simp; omega)]; rfl
            ((conv => cbv); try (first | (refine ordI [0, 1, 2, 3, 4, 5, 6, 7, 8, 9] rfl (by kernel_rfl) ?_; conv => cbv)))
            rw [e]
            simp
      · refine ⟨by simp, Or.inr ⟨by simp [PV.blks], hQ _ _ ?_⟩⟩
        rw [f_lt, f_len, lx] at h1
        have hi' : ¬ i < xs.length := by simpa using h1
        have hb := Ty.beqL_of hlen fun j x y h1 h2 => hpre j x y (by have := (List.getElem?_eq_some_iff.1 h1).1; omega) h1 h2
        exact ⟨_, by simp [hb], rfl⟩

end Go.Proofs.Ytikjhmifgedlbaa
