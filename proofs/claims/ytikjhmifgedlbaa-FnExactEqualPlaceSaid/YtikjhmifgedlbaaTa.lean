/- Types as trees: what the functions over them return. -/
import Derived.Test.YtikjhmifgedlbaaCa
set_option linter.unusedSimpArgs false
set_option linter.unusedVariables false
namespace Go.Proofs.Ytikjhmifgedlbaa
open Go.Ax

inductive Ty where
  | mk (kind : Int) (args : List Ty)

theorem Ty.ind {C : Ty → Prop} (h : ∀ k xs, (∀ x ∈ xs, C x) → C (.mk k xs)) : ∀ t, C t :=
  fun t => Ty.rec (motive_1 := C) (motive_2 := fun xs => ∀ x ∈ xs, C x) (fun k xs ih => h k xs ih) (fun x hx => by cases hx)
    (fun a r ha hr x hx => by rcases List.mem_cons.1 hx with e | e; exact e ▸ ha; exact hr x e) t

mutual
def Ty.av : Ty → PV
  | .mk k xs => .agg [.lit (.int .i64 k), .sl 2 (Ty.avL xs)]
def Ty.avL : List Ty → List PV
  | [] => []
  | t :: r => Ty.av t :: Ty.avL r
end

theorem Ty.avL_eq (xs : List Ty) : Ty.avL xs = xs.map Ty.av := by
  induction xs with
  | nil => rfl
  | cons t r ih => simp [Ty.avL, ih]

theorem Ty.avL_length (xs : List Ty) : (Ty.avL xs).length = xs.length := by simp [Ty.avL_eq]
theorem Ty.avL_get (xs : List Ty) (i : Nat) : (Ty.avL xs)[i]? = (xs[i]?).map Ty.av := by simp [Ty.avL_eq]

mutual
def Ty.beq : Ty → Ty → Bool
  | .mk k xs, .mk l ys => k == l && Ty.beqL xs ys
def Ty.beqL : List Ty → List Ty → Bool
  | [], [] => true
  | x :: xs, y :: ys => Ty.beq x y && Ty.beqL xs ys
  | _, _ => false
end

theorem Ty.beqL_of {xs ys : List Ty} (hl : xs.length = ys.length) (h : ∀ (i : Nat) x y, xs[i]? = some x → ys[i]? = some y → Ty.beq x y = true) : Ty.beqL xs ys = true := by
  induction xs generalizing ys with
  | nil => cases ys with
    | nil => rfl
    | cons y ys => simp at hl
  | cons x xs ih => cases ys with
    | nil => simp at hl
    | cons y ys =>
      simp only [Ty.beqL, Bool.and_eq_true]
      exact ⟨h 0 x y rfl rfl, ih (by simpa using hl) fun i a b h1 h2 => h (i + 1) a b (by simpa using h1) (by simpa using h2)⟩
theorem Ty.beqL_len {xs ys : List Ty} (h : Ty.beqL xs ys = true) : xs.length = ys.length := by
  induction xs generalizing ys with
  | nil => cases ys <;> simp_all [Ty.beqL]
  | cons x xs ih => cases ys with
    | nil => simp [Ty.beqL] at h
    | cons y ys => simp only [Ty.beqL, Bool.and_eq_true] at h; simp [ih h.2]
theorem Ty.beqL_at {xs ys : List Ty} (h : Ty.beqL xs ys = true) {i : Nat} {x y : Ty} (hx : xs[i]? = some x) (hy : ys[i]? = some y) : Ty.beq x y = true := by
  induction xs generalizing ys i with
  | nil => simp at hx
  | cons a xs ih => cases ys with
    | nil => simp at hy
    | cons b ys =>
      simp only [Ty.beqL, Bool.and_eq_true] at h
      cases i with
      | zero => simp at hx hy; subst hx; subst hy; exact h.1
      | succ i => exact ih h.2 (by simpa using hx) (by simpa using hy)

theorem wrap_id {n : Int} (h1 : -9223372036854775808 ≤ n) (h2 : n ≤ 9223372036854775807) : IntKind.i64.wrap n = n := by
  simp only [IntKind.wrap, IntKind.bits, IntKind.signed, Bool.true_and]
  split <;> simp_all <;> omega

theorem inc {i n : Nat} (h : i < n) (hn : n ≤ 9223372036854775807) : IntKind.i64.wrap (Int.ofNat i + 1) = Int.ofNat (i + 1) := by
  rw [wrap_id (by simp; omega) (by simp; omega)]; rfl

variable {P : Go.Program} (hP : IsP P)
include hP

theorem ac77 (xs ys : List Ty) (hlx : xs.length ≤ 9223372036854775807) (hcall : ∀ x ∈ xs, ∀ y, AC P 47 [.pv x.av, .pv (Ty.av y)] [] (fun r _ => ∃ v, v = Ty.beq x y ∧ r = .lit (.bool v))) :
    AC P 77 [.pv (.sl 2 (Ty.avL xs)), .pv (.sl 2 (Ty.avL ys)), .fn 47 []] [] (fun r _ => ∃ v, v = Ty.beqL xs ys ∧ r = .lit (.bool v)) := by
  have gx := Ty.avL_get xs
  have gy := Ty.avL_get ys
  have lx := Ty.avL_length xs
  have ly := Ty.avL_length ys
  generalize Ty.avL xs = X at *
  generalize Ty.avL ys = Y at *
  refine AC.introQ hP.tab hP.mixed hP.f77 rfl (by kernel_rfl) [] fun O Q hO hQ => ?_
  obtain ⟨len, nth, sub, app, fits, add, min_, mul, quo, rem, and, or, xor, shl, shr, eq, lt, le, wrap, imax, imin, seq, sapp, sfits, ssize, sat, ssub, bytes, sbytes, erase, mfits, rep, inB, olay, mull, tonat, inM⟩ := O
  obtain ⟨f_len, f_nth, f_add, f_sub, f_eq, f_lt, f_le, f_wrap, f_mfits, f_rep, f_inB, f_olay, f_mull, f_tonat, f_inM, f_erase, f_seq, f_ssize⟩ : (∀ es, len es = es.length) ∧ (∀ es (i : Nat), nth es (Int.ofNat i) = es[i]?) ∧ (∀ a b, add .i64 a b = IntKind.i64.wrap (a + b)) ∧ (∀ a b, min_ .i64 a b = IntKind.i64.wrap (a - b)) ∧
      (∀ a b, eq a b = (a == b)) ∧ (∀ a b, lt a b = decide (a < b)) ∧ (∀ a b, le a b = decide (a ≤ b)) ∧ (∀ k a, wrap k a = IntKind.wrap k a) ∧
      (∀ n b, mfits n b = (0 ≤ n ∧ n * b ≤ 140737488355328 ∧ n ≤ 4611686018427387904)) ∧ (∀ n z, rep n z = (List.replicate n.toNat z).flatten) ∧ (∀ cs off n, inB cs off n = (off + n ≤ cs.length)) ∧ (∀ cs off vs, olay cs off vs = lay cs off vs) ∧
      (∀ n sz, mull n sz = n.toNat * sz) ∧ (∀ n, tonat n = n.toNat) ∧ (∀ n l, inM n l = decide (0 ≤ n ∧ n < (l : Int))) ∧ (∀ r, erase r = PV.erase r) ∧
      (∀ x y, seq x y = (x.toList == y.toList)) ∧ (∀ x, ssize x = x.size) := by
    cases hO; exact ⟨fun _ => rfl, fun _ _ => by simp, fun _ _ => rfl, fun _ _ => rfl, fun _ _ => rfl, fun _ _ => rfl, fun _ _ => rfl, fun _ _ => rfl, fun _ _ => rfl, fun _ _ => rfl, fun _ _ _ => rfl, fun _ _ _ => rfl, fun _ _ => rfl, fun _ => rfl, fun _ _ => rfl, fun _ => rfl, fun _ _ => rfl, fun _ => rfl⟩
  clear hO
  conv => cbv
  repeat' (first | refine brt (fun h => ?_) (fun h => ?_) | refine brf (fun h => ?_) (fun h => ?_) | refine br (fun h => ?_) (fun h => ?_)) <;> (try rw [h]) <;> conv => cbv
  · refine ⟨by simp, Or.inr ⟨by simp [PV.blks], hQ _ _ ?_⟩⟩
    refine ⟨_, ?_, rfl⟩
    rw [f_eq, f_len, f_len] at h
    cases hb : Ty.beqL xs ys
    · rfl
    · have := Ty.beqL_len hb
      rw [lx, ly, this] at h
      simp at h
  · have hlen : xs.length = ys.length := by
      rw [f_eq, f_len, f_len, lx, ly] at h
      by_cases q : (Int.ofNat xs.length == Int.ofNat ys.length) = true
      · simp at q; omega
      · simp only [Bool.not_eq_true] at q; rw [q] at h; simp at h
    refine loopE (ι := Nat) (fun i => ⟨mkT 32 [(0, .pv (.sl 2 X)), (1, .pv (.sl 2 Y)), (2, .fn 47 []), (6, .pv (.lit (.bool false))), (15, .pv (.sl 2 X)), (16, .pv (.lit (.int .i64 (Int.ofNat (len X))))), (17, .pv (.lit (.int .i64 (Int.ofNat i))))], [], [], fun _ => False⟩)
      (fun i => i ≤ xs.length ∧ ∀ (j : Nat) x y, j < i → xs[j]? = some x → ys[j]? = some y → Ty.beq x y = true) (fun i => xs.length - i) 0 ⟨Nat.zero_le _, fun j _ _ hj => by omega⟩ ?_ ?_
    · conv => cbv
      simp
    · rintro i ⟨hi, hpre⟩ Nx hNx
      conv => cbv
      refine br (fun h1 => ?_) (fun h1 => ?_) <;> (try rw [h1]) <;> conv => cbv
      · rw [f_lt, f_len, lx] at h1
        have hi' : i < xs.length := by simpa using h1
        have hxi : xs[i]? = some xs[i] := List.getElem?_eq_getElem hi'
        have hyi : ys[i]? = some (ys[i]'(by omega)) := List.getElem?_eq_getElem (by omega)
        have hmem : xs[i] ∈ xs := List.getElem_mem hi'
        have hc := hcall _ hmem (ys[i]'(by omega))
        have hn1 : nth X (Int.ofNat i) = some (xs[i]).av := by rw [f_nth, gx, hxi]; rfl
        have hn2 : nth Y (Int.ofNat i) = some (ys[i]'(by omega)).av := by rw [f_nth, gy, hyi]; rfl
        generalize xs[i] = x at *
        generalize ys[i]'_ = y at *
        rcases x with ⟨kx, cx⟩
        rcases y with ⟨ky, cy⟩
        simp only [Ty.av] at hn1 hn2 hc
        generalize Ty.avL cx = CX at *
        generalize Ty.avL cy = CY at *
        rw [hn1]
        conv => cbv
        rw [hn2]
        conv => cbv
        refine .inl ⟨_, hc, ?_⟩
        rintro r _ ⟨v, hv, rfl⟩ -
        conv => cbv
        cases v
        · conv => cbv
          refine ⟨by simp, Or.inr ⟨by simp [PV.blks], hQ _ _ ?_⟩⟩
          refine ⟨_, ?_, rfl⟩
          cases hb : Ty.beqL xs ys
          · rfl
          · have := Ty.beqL_at hb hxi hyi
            rw [← hv] at this; cases this
        · conv => cbv
          refine hNx _ (i + 1) ⟨hi', ?_⟩ (by omega) ?_
          · intro j x y hj g1 g2
            by_cases q : j = i
            · subst q
              rw [hxi] at g1; rw [hyi] at g2
              cases g1; cases g2
              exact hv.symm
            · exact hpre j x y (by omega) g1 g2
          · have e : add .i64 (Int.ofNat i) 1 = Int.ofNat (i + 1) := by
              rw [f_add, wrap_id (by simp; omega) (by simp; omega)]; rfl
            conv => cbv
            rw [e]
            simp
      · refine ⟨by simp, Or.inr ⟨by simp [PV.blks], hQ _ _ ?_⟩⟩
        rw [f_lt, f_len, lx] at h1
        have hi' : ¬ i < xs.length := by simpa using h1
        exact ⟨_, (Ty.beqL_of hlen fun j x y h1 h2 => hpre j x y (by have := (List.getElem?_eq_some_iff.1 h1).1; omega) h1 h2).symm, rfl⟩
end Go.Proofs.Ytikjhmifgedlbaa
