/- Typings: equality, size and copies of a list of names with types. -/
import Derived.Test.YtikjhmifgedlbaaTd
set_option linter.unusedSimpArgs false
set_option linter.unusedVariables false
namespace Go.Proofs.Ytikjhmifgedlbaa
open Go.Ax

def beqL {α : Type} (eq : α → α → Bool) : List α → List α → Bool
  | [], [] => true
  | x :: xs, y :: ys => eq x y && beqL eq xs ys
  | _, _ => false

section
variable {α : Type} {eq : α → α → Bool}
theorem beqL_of {xs ys : List α} (hl : xs.length = ys.length) (h : ∀ (i : Nat) x y, xs[i]? = some x → ys[i]? = some y → eq x y = true) : beqL eq xs ys = true := by
  induction xs generalizing ys with
  | nil => cases ys with
    | nil => rfl
    | cons y ys => simp at hl
  | cons x xs ih => cases ys with
    | nil => simp at hl
    | cons y ys =>
      simp only [beqL, Bool.and_eq_true]
      exact ⟨h 0 x y rfl rfl, ih (by simpa using hl) fun i a b h1 h2 => h (i + 1) a b (by simpa using h1) (by simpa using h2)⟩
theorem beqL_len {xs ys : List α} (h : beqL eq xs ys = true) : xs.length = ys.length := by
  induction xs generalizing ys with
  | nil => cases ys <;> simp_all [beqL]
  | cons x xs ih => cases ys with
    | nil => simp [beqL] at h
    | cons y ys => simp only [beqL, Bool.and_eq_true] at h; simp [ih h.2]
theorem beqL_at {xs ys : List α} (h : beqL eq xs ys = true) {i : Nat} {x y : α} (hx : xs[i]? = some x) (hy : ys[i]? = some y) : eq x y = true := by
  induction xs generalizing ys i with
  | nil => simp at hx
  | cons a xs ih => cases ys with
    | nil => simp at hy
    | cons b ys =>
      simp only [beqL, Bool.and_eq_true] at h
      cases i with
      | zero => simp at hx hy; subst hx; subst hy; exact h.1
      | succ i => exact ih h.2 (by simpa using hx) (by simpa using hy)
theorem beqL_refl {xs : List α} (h : ∀ x ∈ xs, eq x x = true) : beqL eq xs xs = true := by
  induction xs with
  | nil => rfl
  | cons a r ih => simp [beqL, h a (by simp), ih fun x hx => h x (by simp [hx])]
theorem eraseL_map {f : α → PV} {xs : List α} (h : ∀ x ∈ xs, PV.erase (f x) = f x) : PV.eraseL (xs.map f) = xs.map f := by
  induction xs with
  | nil => rfl
  | cons x r ih =>
    simp only [List.map_cons, PV.eraseL]
    rw [h x (by simp), ih fun y hy => h y (by simp [hy])]
end

/-- A type's cells, in a row of others. -/
def Ty.fav : Ty → List PV
  | .mk k xs => [.lit (.int .i64 k), .sl 2 (Ty.avL xs)]

structure Tg where
  name : ByteArray
  ty : Ty
def Tg.av : Tg → PV
  | ⟨n, t⟩ => .agg (.lit (.string n) :: Ty.fav t)
def Tg.beq (a b : Tg) : Bool := (a.name.toList == b.name.toList) && Ty.beq a.ty b.ty
def Tg.sz (a : Tg) : Nat := a.name.size + Ty.sz a.ty
def Tg.ok (a : Tg) : Prop := a.name.size ≤ 9223372036854775807 ∧ a.ty.ok
theorem Tg.erase (a : Tg) : PV.erase a.av = a.av := by
  obtain ⟨n, k, xs⟩ := a
  simp only [Tg.av, Ty.fav, PV.erase, PV.eraseL, Ty.eraseL_of fun x _ => Ty.erase x]
theorem Tg.cells (a : Tg) : a.av.cells.length = 3 ∧ a.av = .agg a.av.cells := by
  obtain ⟨n, k, xs⟩ := a
  exact ⟨rfl, rfl⟩
theorem Tg.beq_refl (a : Tg) : Tg.beq a a = true := by simp [Tg.beq, Ty.beq_refl]

variable {P : Go.Program} (hP : IsP P)
include hP

theorem ac45 (xs ys : List Tg) (hlx : xs.length ≤ 9223372036854775807) (hcall : ∀ x ∈ xs, ∀ y, AC P 46 [.pv (Tg.av x), .pv (Tg.av y)] [] (fun r _ => ∃ v, v = Tg.beq x y ∧ r = .lit (.bool v))) :
    AC P 45 [.pv (.sl 3 (xs.map Tg.av)), .pv (.sl 3 (ys.map Tg.av)), .fn 46 []] [] (fun r _ => ∃ v, v = beqL Tg.beq xs ys ∧ r = .lit (.bool v)) := by
  have gx : ∀ i, (xs.map Tg.av)[i]? = (xs[i]?).map Tg.av := fun i => List.getElem?_map
  have lx : (xs.map Tg.av).length = xs.length := List.length_map _
  have gy : ∀ i, (ys.map Tg.av)[i]? = (ys[i]?).map Tg.av := fun i => List.getElem?_map
  have ly : (ys.map Tg.av).length = ys.length := List.length_map _
  generalize xs.map Tg.av = X at *
  generalize ys.map Tg.av = Y at *
  refine AC.introQ hP.tab hP.mixed hP.f45 rfl (by kernel_rfl) [] fun O Q hO hQ => ?_
  obtain ⟨len, nth, sub, app, fits, add, min_, mul, quo, rem, and, or, xor, shl, shr, eq, lt, le, wrap, imax, imin, seq, sapp, sfits, ssize, sat, ssub, bytes, sbytes, erase, mfits, rep, inB, olay, mull, tonat, inM⟩ := O
  obtain ⟨f_len, f_nth, f_add, f_sub, f_eq, f_lt, f_le, f_wrap, f_mfits, f_rep, f_inB, f_olay, f_mull, f_tonat, f_inM, f_erase, f_seq, f_ssize⟩ : (∀ es, len es = es.length) ∧ (∀ es (i : Nat), nth es (Int.ofNat i) = es[i]?) ∧ (∀ a b, add .i64 a b = IntKind.i64.wrap (a + b)) ∧ (∀ a b, min_ .i64 a b = IntKind.i64.wrap (a - b)) ∧
      (∀ a b, eq a b = (a == b)) ∧ (∀ a b, lt a b = decide (a < b)) ∧ (∀ a b, le a b = decide (a ≤ b)) ∧ (∀ k a, wrap k a = IntKind.wrap k a) ∧
      (∀ n b, mfits n b = (0 ≤ n ∧ n * b ≤ 140737488355328 ∧ n ≤ 4611686018427387904)) ∧ (∀ n z, rep n z = (List.replicate n.toNat z).flatten) ∧ (∀ cs off n, inB cs off n = (off + n ≤ cs.length)) ∧ (∀ cs off vs, olay cs off vs = lay cs off vs) ∧
      (∀ n sz, mull n sz = n.toNat * sz) ∧ (∀ n, tonat n = n.toNat) ∧ (∀ n l, inM n l = decide (0 ≤ n ∧ n < (l : Int))) ∧ (∀ r, erase r = PV.erase r) ∧
      (∀ x y, seq x y = (x.toList == y.toList)) ∧ (∀ x, ssize x = x.size) := by
    cases hO; exact ⟨fun _ => rfl, fun _ _ => by simp, fun _ _ => rfl, fun _ _ => rfl, fun _ _ => rfl, fun _ _ => rfl, fun _ _ => rfl, fun _ _ => rfl, fun _ _ => rfl, fun _ _ => rfl, fun _ _ _ => rfl, fun _ _ _ => rfl, fun _ _ => rfl, fun _ => rfl, fun _ _ => rfl, fun _ => rfl, fun _ _ => rfl, fun _ => rfl⟩
  clear hO
  conv => cbv
  repeat' (first | refine brt (fun h => ?_) (fun h => ?_) | refine brf (fun h => ?_) (fun h => ?_) | refine br (fun h => ?_) (fun h => ?_)) <;> (try rw [h]) <;> conv => cbv
  · refine ⟨by simp, Or.inr ⟨by simp [PV.blks], hQ _ _ ?_⟩⟩
    refine ⟨_, ?_, rfl⟩
    rw [f_eq, f_len, f_len] at h
    cases hb : beqL Tg.beq xs ys
    · simp
    · have := beqL_len hb
      rw [lx, ly, this] at h
      simp at h
  · have hlen : xs.length = ys.length := by
      rw [f_eq, f_len, f_len, lx, ly] at h
      by_cases q : (Int.ofNat xs.length == Int.ofNat ys.length) = true
      · simp at q; omega
      · simp only [Bool.not_eq_true] at q; rw [q] at h; simp at h
    refine loopE (ι := Nat) (fun i => ⟨mkT 32 [(0, .pv (.sl 3 X)), (1, .pv (.sl 3 Y)), (2, .fn 46 []), (6, .pv (.lit (.bool false))), (15, .pv (.sl 3 X)), (16, .pv (.lit (.int .i64 (Int.ofNat (len X))))), (17, .pv (.lit (.int .i64 (Int.ofNat i))))], [], [], fun _ => False⟩)
      (fun i => i ≤ xs.length ∧ ∀ (j : Nat) x y, j < i → xs[j]? = some x → ys[j]? = some y → Tg.beq x y = true) (fun i => xs.length - i) 0 ⟨Nat.zero_le _, fun j _ _ hj => by omega⟩ ?_ ?_
    · conv => cbv
      simp
    · rintro i ⟨hi, hpre⟩ Nx hNx
      conv => cbv
      refine br (fun h1 => ?_) (fun h1 => ?_) <;> (try rw [h1]) <;> conv => cbv
      · rw [f_lt, f_len, lx] at h1
        have hi' : i < xs.length := by simpa using h1
        have hxi : xs[i]? = some xs[i] := List.getElem?_eq_getElem hi'
        have hyi : ys[i]? = some (ys[i]'(by omega)) := List.getElem?_eq_getElem (by omega)
        have hmem : xs[i] ∈ xs := List.getElem_mem hi'
        have hc := hcall _ hmem (ys[i]'(by omega))
        have hn1 : nth X (Int.ofNat i) = some (xs[i]).av := by rw [f_nth, gx, hxi]; rfl
        have hn2 : nth Y (Int.ofNat i) = some (ys[i]'(by omega)).av := by rw [f_nth, gy, hyi]; rfl
        generalize xs[i] = x at *
        generalize ys[i]'_ = y at *
        rcases x with ⟨nx, ⟨kx, cx⟩⟩
        rcases y with ⟨ny, ⟨ky, cy⟩⟩
        simp only [Tg.av, Ty.fav] at hn1 hn2 hc
        generalize Ty.avL cx = CX at *
        generalize Ty.avL cy = CY at *
        rw [hn1]
        conv => cbv
        rw [hn2]
        conv => cbv
        first | refine .inl ⟨_, hc, ?_⟩ | refine ⟨_, hc, ?_⟩
        rintro r _ ⟨v, hv, rfl⟩ -
        conv => cbv
        cases v
        · conv => cbv
          refine ⟨by simp, Or.inr ⟨by simp [PV.blks], hQ _ _ ?_⟩⟩
          refine ⟨_, ?_, rfl⟩
          cases hb : beqL Tg.beq xs ys
          · simp
          · have := beqL_at hb hxi hyi
            rw [← hv] at this; cases this
        · conv => cbv
          refine hNx _ (i + 1) ⟨hi', ?_⟩ (by omega) ?_
          · intro j x y hj g1 g2
            by_cases q : j = i
            · subst q
              rw [hxi] at g1; rw [hyi] at g2
              cases g1; cases g2
              exact hv.symm
            · exact hpre j x y (by omega) g1 g2
          · have e : add .i64 (Int.ofNat i) 1 = Int.ofNat (i + 1) := by
              rw [f_add, wrap_id (by simp; omega) (by simp; omega)]; rfl
            conv => cbv
            rw [e]
            simp
      · refine ⟨by simp, Or.inr ⟨by simp [PV.blks], hQ _ _ ?_⟩⟩
        rw [f_lt, f_len, lx] at h1
        have hi' : ¬ i < xs.length := by simpa using h1
        have hb := beqL_of (eq := Tg.beq) hlen fun j x y h1 h2 => hpre j x y (by have := (List.getElem?_eq_some_iff.1 h1).1; omega) h1 h2
        exact ⟨_, by simp [hb], rfl⟩

theorem ac48 (xs ys : List Tg) (hlx : xs.length ≤ 9223372036854775807) (hcall : ∀ x ∈ xs, ∀ y, AC P 78 [.pv (Tg.av x), .pv (Tg.av y)] [] (fun r _ => ∃ v, v = Tg.beq x y ∧ r = .lit (.bool v))) :
    AC P 48 [.pv (.sl 3 (xs.map Tg.av)), .pv (.sl 3 (ys.map Tg.av))] [] (fun r _ => ∃ v, v = beqL Tg.beq xs ys ∧ r = .lit (.bool v)) := by
  have gx : ∀ i, (xs.map Tg.av)[i]? = (xs[i]?).map Tg.av := fun i => List.getElem?_map
  have lx : (xs.map Tg.av).length = xs.length := List.length_map _
  have gy : ∀ i, (ys.map Tg.av)[i]? = (ys[i]?).map Tg.av := fun i => List.getElem?_map
  have ly : (ys.map Tg.av).length = ys.length := List.length_map _
  generalize xs.map Tg.av = X at *
  generalize ys.map Tg.av = Y at *
  refine AC.introQ hP.tab hP.mixed hP.f48 rfl (by kernel_rfl) [] fun O Q hO hQ => ?_
  obtain ⟨len, nth, sub, app, fits, add, min_, mul, quo, rem, and, or, xor, shl, shr, eq, lt, le, wrap, imax, imin, seq, sapp, sfits, ssize, sat, ssub, bytes, sbytes, erase, mfits, rep, inB, olay, mull, tonat, inM⟩ := O
  obtain ⟨f_len, f_nth, f_add, f_sub, f_eq, f_lt, f_le, f_wrap, f_mfits, f_rep, f_inB, f_olay, f_mull, f_tonat, f_inM, f_erase, f_seq, f_ssize⟩ : (∀ es, len es = es.length) ∧ (∀ es (i : Nat), nth es (Int.ofNat i) = es[i]?) ∧ (∀ a b, add .i64 a b = IntKind.i64.wrap (a + b)) ∧ (∀ a b, min_ .i64 a b = IntKind.i64.wrap (a - b)) ∧
      (∀ a b, eq a b = (a == b)) ∧ (∀ a b, lt a b = decide (a < b)) ∧ (∀ a b, le a b = decide (a ≤ b)) ∧ (∀ k a, wrap k a = IntKind.wrap k a) ∧
      (∀ n b, mfits n b = (0 ≤ n ∧ n * b ≤ 140737488355328 ∧ n ≤ 4611686018427387904)) ∧ (∀ n z, rep n z = (List.replicate n.toNat z).flatten) ∧ (∀ cs off n, inB cs off n = (off + n ≤ cs.length)) ∧ (∀ cs off vs, olay cs off vs = lay cs off vs) ∧
      (∀ n sz, mull n sz = n.toNat * sz) ∧ (∀ n, tonat n = n.toNat) ∧ (∀ n l, inM n l = decide (0 ≤ n ∧ n < (l : Int))) ∧ (∀ r, erase r = PV.erase r) ∧
      (∀ x y, seq x y = (x.toList == y.toList)) ∧ (∀ x, ssize x = x.size) := by
    cases hO; exact ⟨fun _ => rfl, fun _ _ => by simp, fun _ _ => rfl, fun _ _ => rfl, fun _ _ => rfl, fun _ _ => rfl, fun _ _ => rfl, fun _ _ => rfl, fun _ _ => rfl, fun _ _ => rfl, fun _ _ _ => rfl, fun _ _ _ => rfl, fun _ _ => rfl, fun _ => rfl, fun _ _ => rfl, fun _ => rfl, fun _ _ => rfl, fun _ => rfl⟩
  clear hO
  ((conv => cbv); try (first | (refine ordI [0, 1, 2, 3, 4, 5, 6, 7, 8, 9] rfl (by kernel_rfl) ?_; conv => cbv)))
  repeat' (first | refine brt (fun h => ?_) (fun h => ?_) | refine brf (fun h => ?_) (fun h => ?_) | refine br (fun h => ?_) (fun h => ?_)) <;> (try rw [h]) <;> ((conv => cbv); try (first | (refine ordI [0, 1, 2, 3, 4, 5, 6, 7, 8, 9] rfl (by kernel_rfl) ?_; conv => cbv)))
  · refine ⟨by simp, Or.inr ⟨by simp [PV.blks], hQ _ _ ?_⟩⟩
    refine ⟨_, ?_, rfl⟩
    rw [f_eq, f_len, f_len] at h
    cases hb : beqL Tg.beq xs ys
    · simp
    · have := beqL_len hb
      rw [lx, ly, this] at h
      simp at h
  · have hlen : xs.length = ys.length := by
      rw [f_eq, f_len, f_len, lx, ly] at h
      by_cases q : (Int.ofNat xs.length == Int.ofNat ys.length) = true
      · simp at q; omega
      · simp only [Bool.not_eq_true] at q; rw [q] at h; simp at h
    refine loopE (ι := Nat) (fun i => ⟨mkT 27 [(0, .pv (.sl 3 X)), (1, .pv (.sl 3 Y)), (4, .pv (.lit (.bool false))), (5, .pv (.lit (.int .i64 (Int.ofNat i))))], [], [], fun _ => False⟩)
      (fun i => i ≤ xs.length ∧ ∀ (j : Nat) x y, j < i → xs[j]? = some x → ys[j]? = some y → Tg.beq x y = true) (fun i => xs.length - i) 0 ⟨Nat.zero_le _, fun j _ _ hj => by omega⟩ ?_ ?_
    · ((conv => cbv); try (first | (refine ordI [0, 1, 2, 3, 4, 5, 6, 7, 8, 9] rfl (by kernel_rfl) ?_; conv => cbv)))
      simp
    · rintro i ⟨hi, hpre⟩ Nx hNx
      ((conv => cbv); try (first | (refine ordI [0, 1, 2, 3, 4, 5, 6, 7, 8, 9] rfl (by kernel_rfl) ?_; conv => cbv)))
      refine br (fun h1 => ?_) (fun h1 => ?_) <;> (try rw [h1]) <;> ((conv => cbv); try (first | (refine ordI [0, 1, 2, 3, 4, 5, 6, 7, 8, 9] rfl (by kernel_rfl) ?_; conv => cbv)))
      · rw [f_lt, f_len, lx] at h1
        have hi' : i < xs.length := by simpa using h1
        have hxi : xs[i]? = some xs[i] := List.getElem?_eq_getElem hi'
        have hyi : ys[i]? = some (ys[i]'(by omega)) := List.getElem?_eq_getElem (by omega)
        have hmem : xs[i] ∈ xs := List.getElem_mem hi'
        have hc := hcall _ hmem (ys[i]'(by omega))
        have hn1 : nth X (Int.ofNat i) = some (xs[i]).av := by rw [f_nth, gx, hxi]; rfl
        have hn2 : nth Y (Int.ofNat i) = some (ys[i]'(by omega)).av := by rw [f_nth, gy, hyi]; rfl
        generalize xs[i] = x at *
        generalize ys[i]'_ = y at *
        rcases x with ⟨nx, ⟨kx, cx⟩⟩
        rcases y with ⟨ny, ⟨ky, cy⟩⟩
        simp only [Tg.av, Ty.fav] at hn1 hn2 hc
        generalize Ty.avL cx = CX at *
        generalize Ty.avL cy = CY at *
        rw [hn1]
        ((conv => cbv); try (first | (refine ordI [0, 1, 2, 3, 4, 5, 6, 7, 8, 9] rfl (by kernel_rfl) ?_; conv => cbv)))
        rw [hn2]
        ((conv => cbv); try (first | (refine ordI [0, 1, 2, 3, 4, 5, 6, 7, 8, 9] rfl (by kernel_rfl) ?_; conv => cbv)))
        first | refine .inl ⟨_, hc, ?_⟩ | refine ⟨_, hc, ?_⟩
        rintro r _ ⟨v, hv, rfl⟩ -
        ((conv => cbv); try (first | (refine ordI [0, 1, 2, 3, 4, 5, 6, 7, 8, 9] rfl (by kernel_rfl) ?_; conv => cbv)))
        cases v
        · ((conv => cbv); try (first | (refine ordI [0, 1, 2, 3, 4, 5, 6, 7, 8, 9] rfl (by kernel_rfl) ?_; conv => cbv)))
          refine ⟨by simp, Or.inr ⟨by simp [PV.blks], hQ _ _ ?_⟩⟩
          refine ⟨_, ?_, rfl⟩
          cases hb : beqL Tg.beq xs ys
          · simp
          · have := beqL_at hb hxi hyi
            rw [← hv] at this; cases this
        · ((conv => cbv); try (first | (refine ordI [0, 1, 2, 3, 4, 5, 6, 7, 8, 9] rfl (by kernel_rfl) ?_; conv => cbv)))
          refine hNx _ (i + 1) ⟨hi', ?_⟩ (by omega) ?_
          · intro j x y hj g1 g2
            by_cases q : j = i
            · subst q
              rw [hxi] at g1; rw [hyi] at g2
              cases g1; cases g2
              exact hv.symm
            · exact hpre j x y (by omega) g1 g2
          · have e : add .i64 (Int.ofNat i) 1 = Int.ofNat (i + 1) := by
              rw [f_add, wrap_id (by simp; omega) (by simp; omega)]; rfl
            ((conv => cbv); try (first | (refine ordI [0, 1, 2, 3, 4, 5, 6, 7, 8, 9] rfl (by kernel_rfl) ?_; conv => cbv)))
            rw [e]
            simp
      · refine ⟨by simp, Or.inr ⟨by simp [PV.blks], hQ _ _ ?_⟩⟩
        rw [f_lt, f_len, lx] at h1
        have hi' : ¬ i < xs.length := by simpa using h1
        have hb := beqL_of (eq := Tg.beq) hlen fun j x y h1 h2 => hpre j x y (by have := (List.getElem?_eq_some_iff.1 h1).1; omega) h1 h2
        exact ⟨_, by simp [hb], rfl⟩

theorem ac39 (xs : List Tg) (hlx : xs.length ≤ 9223372036854775807) (left : Int) (h0 : 0 ≤ left) (h1 : left ≤ 1048576)
    (hcall : ∀ x ∈ xs, ∀ l : Int, 0 ≤ l → l ≤ 1048576 → AC P 73 [.pv (Tg.av x), .pv (.lit (.int .i64 l))] [] (fun r _ => ∃ v, v = szR (Tg.sz x) l ∧ r = .lit (.int .i64 v))) :
    AC P 39 [.pv (.sl 3 (xs.map Tg.av)), .pv (.lit (.int .i64 left))] [] (fun r _ => ∃ v, v = szR (szP Tg.sz xs xs.length) left ∧ r = .lit (.int .i64 v)) := by
  have gx : ∀ i, (xs.map Tg.av)[i]? = (xs[i]?).map Tg.av := fun i => List.getElem?_map
  have lx : (xs.map Tg.av).length = xs.length := List.length_map _
  have hle := szP_le Tg.sz xs
  have hz := szP_zero Tg.sz xs
  obtain ⟨L, hL⟩ : ∃ L : Nat → Int, ∀ i, L i = left - (szP Tg.sz xs i : Int) := ⟨_, fun _ => rfl⟩
  generalize xs.map Tg.av = X at *
  refine AC.introQ hP.tab hP.mixed hP.f39 rfl (by kernel_rfl) [] fun O Q hO hQ => ?_
  obtain ⟨len, nth, sub, app, fits, add, min_, mul, quo, rem, and, or, xor, shl, shr, eq, lt, le, wrap, imax, imin, seq, sapp, sfits, ssize, sat, ssub, bytes, sbytes, erase, mfits, rep, inB, olay, mull, tonat, inM⟩ := O
  obtain ⟨f_len, f_nth, f_add, f_sub, f_eq, f_lt, f_le, f_wrap, f_mfits, f_rep, f_inB, f_olay, f_mull, f_tonat, f_inM, f_erase, f_seq, f_ssize⟩ : (∀ es, len es = es.length) ∧ (∀ es (i : Nat), nth es (Int.ofNat i) = es[i]?) ∧ (∀ a b, add .i64 a b = IntKind.i64.wrap (a + b)) ∧ (∀ a b, min_ .i64 a b = IntKind.i64.wrap (a - b)) ∧
      (∀ a b, eq a b = (a == b)) ∧ (∀ a b, lt a b = decide (a < b)) ∧ (∀ a b, le a b = decide (a ≤ b)) ∧ (∀ k a, wrap k a = IntKind.wrap k a) ∧
      (∀ n b, mfits n b = (0 ≤ n ∧ n * b ≤ 140737488355328 ∧ n ≤ 4611686018427387904)) ∧ (∀ n z, rep n z = (List.replicate n.toNat z).flatten) ∧ (∀ cs off n, inB cs off n = (off + n ≤ cs.length)) ∧ (∀ cs off vs, olay cs off vs = lay cs off vs) ∧
      (∀ n sz, mull n sz = n.toNat * sz) ∧ (∀ n, tonat n = n.toNat) ∧ (∀ n l, inM n l = decide (0 ≤ n ∧ n < (l : Int))) ∧ (∀ r, erase r = PV.erase r) ∧
      (∀ x y, seq x y = (x.toList == y.toList)) ∧ (∀ x, ssize x = x.size) := by
    cases hO; exact ⟨fun _ => rfl, fun _ _ => by simp, fun _ _ => rfl, fun _ _ => rfl, fun _ _ => rfl, fun _ _ => rfl, fun _ _ => rfl, fun _ _ => rfl, fun _ _ => rfl, fun _ _ => rfl, fun _ _ _ => rfl, fun _ _ _ => rfl, fun _ _ => rfl, fun _ => rfl, fun _ _ => rfl, fun _ => rfl, fun _ _ => rfl, fun _ => rfl⟩
  clear hO
  conv => cbv
  have e0 : min_ .i64 left (Int.ofNat (len X)) = L 0 := by
    rw [f_sub, f_len, lx, hL, hz, wrap_id (by simp; omega) (by simp; omega)]; rfl
  rw [e0]
  repeat' (first | refine brt (fun h => ?_) (fun h => ?_) | refine brf (fun h => ?_) (fun h => ?_) | refine br (fun h => ?_) (fun h => ?_)) <;> (try rw [h]) <;> conv => cbv
  · refine ⟨by simp, Or.inr ⟨by simp [PV.blks], hQ _ _ ?_⟩⟩
    rw [f_lt, hL] at h
    simp only [decide_eq_true_eq] at h
    refine ⟨_, ?_, rfl⟩
    have := hle 0
    rw [szR, if_neg (by omega)]
  · have hs : szP Tg.sz xs 0 ≤ left := by
      rw [f_lt, hL] at h
      simp only [decide_eq_false_iff_not] at h
      omega
    refine loopE (ι := Nat) (fun i => ⟨mkT 27 [(0, .pv (.sl 3 X)), (1, .pv (.lit (.int .i64 (L i)))), (4, .pv (.lit (.int .i64 0))), (5, .pv (.lit (.int .i64 (Int.ofNat i))))], [], [], fun _ => False⟩)
      (fun i => i ≤ xs.length ∧ (szP Tg.sz xs i : Int) ≤ left) (fun i => xs.length - i) 0 ⟨Nat.zero_le _, hs⟩ ?_ ?_
    · conv => cbv
      simp
    · rintro i ⟨hi, hpre⟩ Nx hNx
      conv => cbv
      refine br (fun h1 => ?_) (fun h1 => ?_) <;> (try rw [h1]) <;> conv => cbv
      · rw [f_lt, f_len, lx] at h1
        have hi' : i < xs.length := by simpa using h1
        have hxi : xs[i]? = some xs[i] := List.getElem?_eq_getElem hi'
        have hmem : xs[i] ∈ xs := List.getElem_mem hi'
        have hc := hcall _ hmem (L i) (by rw [hL]; omega) (by rw [hL]; omega)
        have hn1 : nth X (Int.ofNat i) = some (xs[i]).av := by rw [f_nth, gx, hxi]; rfl
        have hsu := szP_succ Tg.sz hxi
        generalize xs[i] = x at *
        rcases x with ⟨nx, ⟨kx, cx⟩⟩
        simp only [Tg.av, Ty.fav] at hn1 hc
        generalize Ty.avL cx = CX at *
        rw [hn1]
        conv => cbv
        first | refine .inl ⟨_, hc, ?_⟩ | refine ⟨_, hc, ?_⟩
        rintro r _ ⟨v, hv, rfl⟩ -
        conv => cbv
        refine br (fun h2 => ?_) (fun h2 => ?_) <;> (try rw [h2]) <;> conv => cbv
        · refine ⟨by simp, Or.inr ⟨by simp [PV.blks], hQ _ _ ?_⟩⟩
          refine ⟨_, ?_, rfl⟩
          have := hle (i + 1)
          rw [f_lt] at h2
          simp only [decide_eq_true_eq] at h2
          rw [szR] at hv ⊢
          rw [hL] at hv
          split at hv
          · omega
          · rw [if_neg (by omega)]
        · rw [f_lt] at h2
          simp only [decide_eq_false_iff_not] at h2
          have hv' : v = L (i + 1) ∧ (szP Tg.sz xs (i + 1) : Int) ≤ left := by
            rw [szR, hL] at hv
            rw [hL]
            split at hv <;> omega
          refine hNx _ (i + 1) ⟨hi', hv'.2⟩ (by omega) ?_
          have e : add .i64 (Int.ofNat i) 1 = Int.ofNat (i + 1) := by
            rw [f_add, wrap_id (by simp; omega) (by simp; omega)]; rfl
          have hv2 := hv'.1
          subst hv2
          conv => cbv
          rw [e]
          simp
      · refine ⟨by simp, Or.inr ⟨by simp [PV.blks], hQ _ _ ?_⟩⟩
        rw [f_lt, f_len, lx] at h1
        have hi' : i = xs.length := by simp at h1; omega
        subst hi'
        refine ⟨_, ?_, rfl⟩
        rw [hL, szR, if_pos (by omega)]

theorem ac43 (xs : List Tg) (hlx : xs.length ≤ 1048576) (hcall : ∀ x ∈ xs, AC P 75 [.pv (Tg.av x)] [] (fun r _ => r = Tg.av x)) : AC P 43 [.pv (.sl 3 (xs.map Tg.av))] [] (fun r _ => r = .sl 3 (xs.map Tg.av)) := by
  have gx : ∀ i, (xs.map Tg.av)[i]? = (xs[i]?).map Tg.av := fun i => List.getElem?_map
  have lx : (xs.map Tg.av).length = xs.length := List.length_map _
  have he : PV.eraseL (xs.map Tg.av) = xs.map Tg.av := eraseL_map fun x _ => Tg.erase x
  have cf : ∀ e ∈ xs.map Tg.av, e.cells.length = 3 ∧ e = .agg e.cells := by
    intro e he
    obtain ⟨t, _, rfl⟩ := List.mem_map.1 he
    exact Tg.cells t
  generalize xs.map Tg.av = X at *
  refine AC.introQ hP.tab hP.mixed hP.f43 rfl (by kernel_rfl) [7] fun O Q hO hQ => ?_
  obtain ⟨len, nth, sub, app, fits, add, min_, mul, quo, rem, and, or, xor, shl, shr, eq, lt, le, wrap, imax, imin, seq, sapp, sfits, ssize, sat, ssub, bytes, sbytes, erase, mfits, rep, inB, olay, mull, tonat, inM⟩ := O
  obtain ⟨f_len, f_nth, f_add, f_sub, f_eq, f_lt, f_le, f_wrap, f_mfits, f_rep, f_inB, f_olay, f_mull, f_tonat, f_inM, f_erase, f_seq, f_ssize⟩ : (∀ es, len es = es.length) ∧ (∀ es (i : Nat), nth es (Int.ofNat i) = es[i]?) ∧ (∀ a b, add .i64 a b = IntKind.i64.wrap (a + b)) ∧ (∀ a b, min_ .i64 a b = IntKind.i64.wrap (a - b)) ∧
      (∀ a b, eq a b = (a == b)) ∧ (∀ a b, lt a b = decide (a < b)) ∧ (∀ a b, le a b = decide (a ≤ b)) ∧ (∀ k a, wrap k a = IntKind.wrap k a) ∧
      (∀ n b, mfits n b = (0 ≤ n ∧ n * b ≤ 140737488355328 ∧ n ≤ 4611686018427387904)) ∧ (∀ n z, rep n z = (List.replicate n.toNat z).flatten) ∧ (∀ cs off n, inB cs off n = (off + n ≤ cs.length)) ∧ (∀ cs off vs, olay cs off vs = lay cs off vs) ∧
      (∀ n sz, mull n sz = n.toNat * sz) ∧ (∀ n, tonat n = n.toNat) ∧ (∀ n l, inM n l = decide (0 ≤ n ∧ n < (l : Int))) ∧ (∀ r, erase r = PV.erase r) ∧
      (∀ x y, seq x y = (x.toList == y.toList)) ∧ (∀ x, ssize x = x.size) := by
    cases hO; exact ⟨fun _ => rfl, fun _ _ => by simp, fun _ _ => rfl, fun _ _ => rfl, fun _ _ => rfl, fun _ _ => rfl, fun _ _ => rfl, fun _ _ => rfl, fun _ _ => rfl, fun _ _ => rfl, fun _ _ _ => rfl, fun _ _ _ => rfl, fun _ _ => rfl, fun _ => rfl, fun _ _ => rfl, fun _ => rfl, fun _ _ => rfl, fun _ => rfl⟩
  clear hO
  conv => cbv
  have hXc : ∀ e ∈ X, e.cells.length = 3 := fun e he => (cf e he).1
  obtain ⟨C, hC⟩ : ∃ C : Nat → List AV, ∀ i, C i = msC X [.pv (.lit (.string ⟨#[]⟩)), .pv (.lit (.int .i64 0)), .pv (.own 0 none 2 [])] i := ⟨_, fun _ => rfl⟩
  have c0 : rep (Int.ofNat (len X)) [.pv (.lit (.string ⟨#[]⟩)), .pv (.lit (.int .i64 0)), .pv (.own 0 none 2 [])] = C 0 := by rw [f_rep, f_len, hC, msC_zero]; rfl
  have cIds : ∀ i, AV.idsL (C i) = [] := fun i => by rw [hC]; exact msC_ids (by simp)
  have cIn : ∀ i, i < xs.length → inB (C i) (mull (Int.ofNat i) 3) 3 := fun i hi => by
    rw [f_inB, f_mull, hC, msC_len (sz := 3) (by simp) hXc (by omega)]
    show i * 3 + 3 ≤ _
    have : (i + 1) * 3 ≤ X.length * 3 := Nat.mul_le_mul_right _ (by omega)
    omega
  rw [c0]
  refine ⟨?_, ?_⟩
  · rw [f_mfits, f_len, lx]
    exact ⟨by simp, by simp; omega, by simp; omega⟩
  refine loopE (ι := Nat) (fun i => ⟨mkT 23 [(0, .pv (.sl 3 X)), (3, .msl 7 3 (tonat (Int.ofNat (len X)))), (4, .pv (.lit (.int .i64 (Int.ofNat i))))], [(7, C i)], [], fun _ => False⟩)
    (fun i => i ≤ xs.length) (fun i => xs.length - i) 0 (Nat.zero_le _) ?_ ?_
  · refine ⟨?_, ⟨by simp [lk], trivial⟩, trivial, rfl, ?_, rfl, fun _ h => h⟩
    · conv => cbv
      simp
    · show (refsIn _ (C 0) && true) = true
      rw [refsIn_nil (cIds 0)]; rfl
  · rintro i hi Nx hNx
    conv => cbv
    refine br (fun h1 => ?_) (fun h1 => ?_) <;> (try rw [h1]) <;> conv => cbv
    · rw [f_lt, f_len, lx] at h1
      have hi' : i < xs.length := by simpa using h1
      have hxi : xs[i]? = some xs[i] := List.getElem?_eq_getElem hi'
      have hmem : xs[i] ∈ xs := List.getElem_mem hi'
      have hc := hcall _ hmem
      have hn1 : nth X (Int.ofNat i) = some (xs[i]).av := by rw [f_nth, gx, hxi]; rfl
      have hst : olay (C i) (mull (Int.ofNat i) 3) ((xs[i]).av.cells.map .pv) = C (i + 1) := by
        rw [f_olay, f_mull, hC, hC]
        exact msC_step (by simp) hXc (by rw [gx, hxi]; rfl)
      have hM : inM (Int.ofNat i) (tonat (Int.ofNat (len X))) = true := by
        rw [f_inM, f_tonat, f_len, lx]; simp; omega
      generalize xs[i] = x at *
      rcases x with ⟨nx, ⟨kx, cx⟩⟩
      simp only [Tg.av, Ty.fav] at hn1 hc hst
      generalize Ty.avL cx = CX at *
      rw [hn1]
      conv => cbv
      first | refine .inl ⟨_, hc, ?_⟩ | refine ⟨_, hc, ?_⟩
      rintro r _ rfl -
      conv => cbv
      rw [hM]
      conv => cbv
      refine ⟨cIn i hi', ?_⟩
      simp only [PV.cells, List.map_cons, List.map_nil] at hst
      refine hNx _ (i + 1) hi' (by omega) ?_
      have e : add .i64 (Int.ofNat i) 1 = Int.ofNat (i + 1) := by
        rw [f_add, wrap_id (by simp; omega) (by simp; omega)]; rfl
      rw [hst]
      refine ⟨?_, ⟨by simp [lk], trivial⟩, trivial, rfl, ?_, rfl, ?_⟩
      · conv => cbv
        rw [e]
        simp
      · show (refsIn _ (C (i + 1)) && true) = true
        rw [refsIn_nil (cIds _)]; rfl
      · simp
    · rw [f_lt, f_len, lx] at h1
      have hi' : i = xs.length := by simp at h1; omega
      subst hi'
      have hn : tonat (Int.ofNat (len X)) = X.length := by rw [f_tonat, f_len]; rfl
      have hl : C xs.length = (X.flatMap PV.cells).map .pv := by rw [hC, ← lx, msC_all]
      refine ⟨by simp, X.flatMap PV.cells, ?_, ?_, by omega, by omega, fun b _ => Or.inr (hQ _ _ ?_)⟩
      · show allPV (C xs.length) = _
        rw [hl, allPV_map]
      · rw [hn, ← msC_len (z := [.pv (.lit (.string ⟨#[]⟩)), .pv (.lit (.int .i64 0)), .pv (.own 0 none 2 [])]) (sz := 3) (by simp) hXc (Nat.le_refl _), msC_all, List.length_map]
      · rw [hn, chunk_agg (by omega) cf]
        simp only [PV.erase, he]

end Go.Proofs.Ytikjhmifgedlbaa
