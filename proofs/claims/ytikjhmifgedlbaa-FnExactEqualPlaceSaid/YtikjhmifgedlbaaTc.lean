/- Types, third part: size and copies of types. -/
import Derived.Test.YtikjhmifgedlbaaTb
import Derived.Test.YtikjhmifgedlbaaAxMs
set_option linter.unusedSimpArgs false
set_option linter.unusedVariables false
namespace Go.Proofs.Ytikjhmifgedlbaa
open Go.Ax

mutual
def Ty.sz : Ty → Nat
  | .mk _ xs => Ty.szL xs
def Ty.szL : List Ty → Nat
  | [] => 0
  | x :: r => 1 + Ty.sz x + Ty.szL r
end

/-- What is left of a purse. -/
def szR (n : Nat) (l : Int) : Int := if (n : Int) ≤ l then l - n else -1

def szP {α : Type} (sz : α → Nat) (xs : List α) (i : Nat) : Nat := xs.length + ((xs.take i).map sz).sum

theorem szP_zero {α : Type} (sz : α → Nat) (xs : List α) : szP sz xs 0 = xs.length := by simp [szP]
theorem szP_succ {α : Type} (sz : α → Nat) {xs : List α} {i : Nat} {x : α} (h : xs[i]? = some x) : szP sz xs (i + 1) = szP sz xs i + sz x := by
  simp only [szP, List.take_add_one, h, List.map_append, List.sum_append]
  simp; omega
theorem sum_take_le (l : List Nat) (i : Nat) : (l.take i).sum ≤ l.sum := by
  induction l generalizing i with
  | nil => simp
  | cons a r ih => cases i with
    | zero => simp
    | succ i => simp [ih i]
theorem szP_le {α : Type} (sz : α → Nat) (xs : List α) (i : Nat) : szP sz xs i ≤ szP sz xs xs.length := by
  simp only [szP, List.take_length]
  have := sum_take_le (xs.map sz) i
  rw [List.map_take]
  omega
theorem Ty.szP_all (xs : List Ty) : szP Ty.sz xs xs.length = Ty.szL xs := by
  simp only [szP, List.take_length]
  induction xs with
  | nil => rfl
  | cons x r ih => simp [Ty.szL] at *; omega

theorem Ty.eraseL_of {xs : List Ty} (h : ∀ x ∈ xs, PV.erase (Ty.av x) = Ty.av x) : PV.eraseL (Ty.avL xs) = Ty.avL xs := by
  induction xs with
  | nil => rfl
  | cons x r ih =>
    simp only [Ty.avL, PV.eraseL]
    rw [h x (by simp), ih fun y hy => h y (by simp [hy])]
theorem Ty.erase (t : Ty) : PV.erase t.av = t.av := by
  induction t using Ty.ind with
  | h k xs ih => simp only [Ty.av, PV.erase, PV.eraseL]; rw [Ty.eraseL_of ih]

variable {P : Go.Program} (hP : IsP P)
include hP

theorem ac49s (ka kb : Int) (xs ys : List Ty) (h79 : AC P 79 [.pv (.sl 2 (Ty.avL xs)), .pv (.sl 2 (Ty.avL ys))] [] (fun r _ => ∃ v, v = Ty.beqL xs ys ∧ r = .lit (.bool v))) :
    AC P 49 [.pv (Ty.mk ka xs).av, .pv (Ty.mk kb ys).av] [] (fun r _ => ∃ v, v = Ty.beq (.mk ka xs) (.mk kb ys) ∧ r = .lit (.bool v)) := by
  simp only [Ty.av, Ty.beq]
  generalize Ty.avL xs = X at *
  generalize Ty.avL ys = Y at *
  refine AC.introQ hP.tab hP.mixed hP.f49 rfl (by kernel_rfl) [] fun O Q hO hQ => ?_
  obtain ⟨len, nth, sub, app, fits, add, min_, mul, quo, rem, and, or, xor, shl, shr, eq, lt, le, wrap, imax, imin, seq, sapp, sfits, ssize, sat, ssub, bytes, sbytes, erase, mfits, rep, inB, olay, mull, tonat, inM⟩ := O
  obtain ⟨f_len, f_nth, f_add, f_sub, f_eq, f_lt, f_le, f_wrap, f_mfits, f_rep, f_inB, f_olay, f_mull, f_tonat, f_inM, f_erase, f_seq, f_ssize⟩ : (∀ es, len es = es.length) ∧ (∀ es (i : Nat), nth es (Int.ofNat i) = es[i]?) ∧ (∀ a b, add .i64 a b = IntKind.i64.wrap (a + b)) ∧ (∀ a b, min_ .i64 a b = IntKind.i64.wrap (a - b)) ∧
      (∀ a b, eq a b = (a == b)) ∧ (∀ a b, lt a b = decide (a < b)) ∧ (∀ a b, le a b = decide (a ≤ b)) ∧ (∀ k a, wrap k a = IntKind.wrap k a) ∧
      (∀ n b, mfits n b = (0 ≤ n ∧ n * b ≤ 140737488355328 ∧ n ≤ 4611686018427387904)) ∧ (∀ n z, rep n z = (List.replicate n.toNat z).flatten) ∧ (∀ cs off n, inB cs off n = (off + n ≤ cs.length)) ∧ (∀ cs off vs, olay cs off vs = lay cs off vs) ∧
      (∀ n sz, mull n sz = n.toNat * sz) ∧ (∀ n, tonat n = n.toNat) ∧ (∀ n l, inM n l = decide (0 ≤ n ∧ n < (l : Int))) ∧ (∀ r, erase r = PV.erase r) ∧
      (∀ x y, seq x y = (x.toList == y.toList)) ∧ (∀ x, ssize x = x.size) := by
    cases hO; exact ⟨fun _ => rfl, fun _ _ => by simp, fun _ _ => rfl, fun _ _ => rfl, fun _ _ => rfl, fun _ _ => rfl, fun _ _ => rfl, fun _ _ => rfl, fun _ _ => rfl, fun _ _ => rfl, fun _ _ _ => rfl, fun _ _ _ => rfl, fun _ _ => rfl, fun _ => rfl, fun _ _ => rfl, fun _ => rfl, fun _ _ => rfl, fun _ => rfl⟩
  clear hO
  conv => cbv
  repeat' (first | refine brt (fun h => ?_) (fun h => ?_) | refine brf (fun h => ?_) (fun h => ?_) | refine br (fun h => ?_) (fun h => ?_)) <;> (try rw [h]) <;> conv => cbv
  · refine ⟨by simp, Or.inr ⟨by simp [PV.blks], hQ _ _ ?_⟩⟩
    rw [f_eq] at h
    refine ⟨_, ?_, rfl⟩
    cases q : ka == kb
    · simp
    · rw [q] at h; simp at h
  · have hk : (ka == kb) = true := by
      rw [f_eq] at h
      cases q : ka == kb
      · rw [q] at h; simp at h
      · rfl
    first | refine .inl ⟨_, h79, ?_⟩ | refine ⟨_, h79, ?_⟩
    rintro r _ ⟨v, hv, rfl⟩ -
    conv => cbv
    cases v
    · conv => cbv
      refine ⟨by simp, Or.inr ⟨by simp [PV.blks], hQ _ _ ?_⟩⟩
      exact ⟨_, by rw [← hv]; simp, rfl⟩
    · conv => cbv
      refine ⟨by simp, Or.inr ⟨by simp [PV.blks], hQ _ _ ?_⟩⟩
      exact ⟨_, by rw [← hv, hk]; rfl, rfl⟩

theorem ac74 (xs : List Ty) (hlx : xs.length ≤ 9223372036854775807) (left : Int) (h0 : 0 ≤ left) (h1 : left ≤ 1048576)
    (hcall : ∀ x ∈ xs, ∀ l : Int, 0 ≤ l → l ≤ 1048576 → AC P 40 [.pv (Ty.av x), .pv (.lit (.int .i64 l))] [] (fun r _ => ∃ v, v = szR (Ty.sz x) l ∧ r = .lit (.int .i64 v))) :
    AC P 74 [.pv (.sl 2 (Ty.avL xs)), .pv (.lit (.int .i64 left))] [] (fun r _ => ∃ v, v = szR (Ty.szL xs) left ∧ r = .lit (.int .i64 v)) := by
  have gx := Ty.avL_get xs
  have lx := Ty.avL_length xs
  have hall := Ty.szP_all xs
  have hle := szP_le Ty.sz xs
  have hz := szP_zero Ty.sz xs
  obtain ⟨L, hL⟩ : ∃ L : Nat → Int, ∀ i, L i = left - (szP Ty.sz xs i : Int) := ⟨_, fun _ => rfl⟩
  generalize Ty.avL xs = X at *
  refine AC.introQ hP.tab hP.mixed hP.f74 rfl (by kernel_rfl) [] fun O Q hO hQ => ?_
  obtain ⟨len, nth, sub, app, fits, add, min_, mul, quo, rem, and, or, xor, shl, shr, eq, lt, le, wrap, imax, imin, seq, sapp, sfits, ssize, sat, ssub, bytes, sbytes, erase, mfits, rep, inB, olay, mull, tonat, inM⟩ := O
  obtain ⟨f_len, f_nth, f_add, f_sub, f_eq, f_lt, f_le, f_wrap, f_mfits, f_rep, f_inB, f_olay, f_mull, f_tonat, f_inM, f_erase, f_seq, f_ssize⟩ : (∀ es, len es = es.length) ∧ (∀ es (i : Nat), nth es (Int.ofNat i) = es[i]?) ∧ (∀ a b, add .i64 a b = IntKind.i64.wrap (a + b)) ∧ (∀ a b, min_ .i64 a b = IntKind.i64.wrap (a - b)) ∧
      (∀ a b, eq a b = (a == b)) ∧ (∀ a b, lt a b = decide (a < b)) ∧ (∀ a b, le a b = decide (a ≤ b)) ∧ (∀ k a, wrap k a = IntKind.wrap k a) ∧
      (∀ n b, mfits n b = (0 ≤ n ∧ n * b ≤ 140737488355328 ∧ n ≤ 4611686018427387904)) ∧ (∀ n z, rep n z = (List.replicate n.toNat z).flatten) ∧ (∀ cs off n, inB cs off n = (off + n ≤ cs.length)) ∧ (∀ cs off vs, olay cs off vs = lay cs off vs) ∧
      (∀ n sz, mull n sz = n.toNat * sz) ∧ (∀ n, tonat n = n.toNat) ∧ (∀ n l, inM n l = decide (0 ≤ n ∧ n < (l : Int))) ∧ (∀ r, erase r = PV.erase r) ∧
      (∀ x y, seq x y = (x.toList == y.toList)) ∧ (∀ x, ssize x = x.size) := by
    cases hO; exact ⟨fun _ => rfl, fun _ _ => by simp, fun _ _ => rfl, fun _ _ => rfl, fun _ _ => rfl, fun _ _ => rfl, fun _ _ => rfl, fun _ _ => rfl, fun _ _ => rfl, fun _ _ => rfl, fun _ _ _ => rfl, fun _ _ _ => rfl, fun _ _ => rfl, fun _ => rfl, fun _ _ => rfl, fun _ => rfl, fun _ _ => rfl, fun _ => rfl⟩
  clear hO
  conv => cbv
  have e0 : min_ .i64 left (Int.ofNat (len X)) = L 0 := by
    rw [f_sub, f_len, lx, hL, hz, wrap_id (by simp; omega) (by simp; omega)]; rfl
  rw [e0]
  repeat' (first | refine brt (fun h => ?_) (fun h => ?_) | refine brf (fun h => ?_) (fun h => ?_) | refine br (fun h => ?_) (fun h => ?_)) <;> (try rw [h]) <;> conv => cbv
  · refine ⟨by simp, Or.inr ⟨by simp [PV.blks], hQ _ _ ?_⟩⟩
    rw [f_lt, hL] at h
    simp only [decide_eq_true_eq] at h
    refine ⟨_, ?_, rfl⟩
    have := hle 0
    rw [szR, if_neg (by omega)]
  · have hs : szP Ty.sz xs 0 ≤ left := by
      rw [f_lt, hL] at h
      simp only [decide_eq_false_iff_not] at h
      omega
    refine loopE (ι := Nat) (fun i => ⟨mkT 27 [(0, .pv (.sl 2 X)), (1, .pv (.lit (.int .i64 (L i)))), (4, .pv (.lit (.int .i64 0))), (5, .pv (.lit (.int .i64 (Int.ofNat i))))], [], [], fun _ => False⟩)
      (fun i => i ≤ xs.length ∧ (szP Ty.sz xs i : Int) ≤ left) (fun i => xs.length - i) 0 ⟨Nat.zero_le _, hs⟩ ?_ ?_
    · conv => cbv
      simp
    · rintro i ⟨hi, hpre⟩ Nx hNx
      conv => cbv
      refine br (fun h1 => ?_) (fun h1 => ?_) <;> (try rw [h1]) <;> conv => cbv
      · rw [f_lt, f_len, lx] at h1
        have hi' : i < xs.length := by simpa using h1
        have hxi : xs[i]? = some xs[i] := List.getElem?_eq_getElem hi'
        have hmem : xs[i] ∈ xs := List.getElem_mem hi'
        have hc := hcall _ hmem (L i) (by rw [hL]; omega) (by rw [hL]; omega)
        have hn1 : nth X (Int.ofNat i) = some (xs[i]).av := by rw [f_nth, gx, hxi]; rfl
        have hsu := szP_succ Ty.sz hxi
        generalize xs[i] = x at *
        rcases x with ⟨kx, cx⟩
        simp only [Ty.av] at hn1 hc
        generalize Ty.avL cx = CX at *
        rw [hn1]
        conv => cbv
        first | refine .inl ⟨_, hc, ?_⟩ | refine ⟨_, hc, ?_⟩
        rintro r _ ⟨v, hv, rfl⟩ -
        conv => cbv
        refine br (fun h2 => ?_) (fun h2 => ?_) <;> (try rw [h2]) <;> conv => cbv
        · refine ⟨by simp, Or.inr ⟨by simp [PV.blks], hQ _ _ ?_⟩⟩
          refine ⟨_, ?_, rfl⟩
          have := hle (i + 1)
          rw [f_lt] at h2
          simp only [decide_eq_true_eq] at h2
          rw [szR] at hv ⊢
          rw [hL] at hv
          split at hv
          · omega
          · rw [if_neg (by omega)]
        · rw [f_lt] at h2
          simp only [decide_eq_false_iff_not] at h2
          have hv' : v = L (i + 1) ∧ (szP Ty.sz xs (i + 1) : Int) ≤ left := by
            rw [szR, hL] at hv
            rw [hL]
            split at hv <;> omega
          refine hNx _ (i + 1) ⟨hi', hv'.2⟩ (by omega) ?_
          have e : add .i64 (Int.ofNat i) 1 = Int.ofNat (i + 1) := by
            rw [f_add, wrap_id (by simp; omega) (by simp; omega)]; rfl
          have hv2 := hv'.1
          subst hv2
          conv => cbv
          rw [e]
          simp
      · refine ⟨by simp, Or.inr ⟨by simp [PV.blks], hQ _ _ ?_⟩⟩
        rw [f_lt, f_len, lx] at h1
        have hi' : i = xs.length := by simp at h1; omega
        subst hi'
        refine ⟨_, ?_, rfl⟩
        rw [hL, szR, if_pos (by omega), hall]

theorem ac40s (k : Int) (xs : List Ty) (left : Int)
    (h74 : AC P 74 [.pv (.sl 2 (Ty.avL xs)), .pv (.lit (.int .i64 left))] [] (fun r _ => ∃ v, v = szR (Ty.szL xs) left ∧ r = .lit (.int .i64 v))) :
    AC P 40 [.pv (Ty.mk k xs).av, .pv (.lit (.int .i64 left))] [] (fun r _ => ∃ v, v = szR (Ty.sz (Ty.mk k xs)) left ∧ r = .lit (.int .i64 v)) := by
  simp only [Ty.av, Ty.sz]
  generalize Ty.avL xs = X at *
  refine AC.introQ hP.tab hP.mixed hP.f40 rfl (by kernel_rfl) [] fun O Q hO hQ => ?_
  obtain ⟨len, nth, sub, app, fits, add, min_, mul, quo, rem, and, or, xor, shl, shr, eq, lt, le, wrap, imax, imin, seq, sapp, sfits, ssize, sat, ssub, bytes, sbytes, erase, mfits, rep, inB, olay, mull, tonat, inM⟩ := O
  obtain ⟨f_len, f_nth, f_add, f_sub, f_eq, f_lt, f_le, f_wrap, f_mfits, f_rep, f_inB, f_olay, f_mull, f_tonat, f_inM, f_erase, f_seq, f_ssize⟩ : (∀ es, len es = es.length) ∧ (∀ es (i : Nat), nth es (Int.ofNat i) = es[i]?) ∧ (∀ a b, add .i64 a b = IntKind.i64.wrap (a + b)) ∧ (∀ a b, min_ .i64 a b = IntKind.i64.wrap (a - b)) ∧
      (∀ a b, eq a b = (a == b)) ∧ (∀ a b, lt a b = decide (a < b)) ∧ (∀ a b, le a b = decide (a ≤ b)) ∧ (∀ k a, wrap k a = IntKind.wrap k a) ∧
      (∀ n b, mfits n b = (0 ≤ n ∧ n * b ≤ 140737488355328 ∧ n ≤ 4611686018427387904)) ∧ (∀ n z, rep n z = (List.replicate n.toNat z).flatten) ∧ (∀ cs off n, inB cs off n = (off + n ≤ cs.length)) ∧ (∀ cs off vs, olay cs off vs = lay cs off vs) ∧
      (∀ n sz, mull n sz = n.toNat * sz) ∧ (∀ n, tonat n = n.toNat) ∧ (∀ n l, inM n l = decide (0 ≤ n ∧ n < (l : Int))) ∧ (∀ r, erase r = PV.erase r) ∧
      (∀ x y, seq x y = (x.toList == y.toList)) ∧ (∀ x, ssize x = x.size) := by
    cases hO; exact ⟨fun _ => rfl, fun _ _ => by simp, fun _ _ => rfl, fun _ _ => rfl, fun _ _ => rfl, fun _ _ => rfl, fun _ _ => rfl, fun _ _ => rfl, fun _ _ => rfl, fun _ _ => rfl, fun _ _ _ => rfl, fun _ _ _ => rfl, fun _ _ => rfl, fun _ => rfl, fun _ _ => rfl, fun _ => rfl, fun _ _ => rfl, fun _ => rfl⟩
  clear hO
  conv => cbv
  first | refine .inl ⟨_, h74, ?_⟩ | refine ⟨_, h74, ?_⟩
  rintro r _ ⟨v, hv, rfl⟩ -
  conv => cbv
  refine br (fun h2 => ?_) (fun h2 => ?_) <;> (try rw [h2]) <;> conv => cbv
  · refine ⟨by simp, Or.inr ⟨by simp [PV.blks], hQ _ _ ?_⟩⟩
    rw [f_lt] at h2
    simp only [decide_eq_true_eq] at h2
    refine ⟨_, ?_, rfl⟩
    rw [szR] at hv ⊢
    split at hv
    · omega
    · rw [if_neg (by omega)]
  · refine ⟨by simp, Or.inr ⟨by simp [PV.blks], hQ _ _ ?_⟩⟩
    exact ⟨_, hv, rfl⟩

theorem ac44s (k : Int) (xs : List Ty) (hcall : AC P 76 [.pv (.sl 2 (Ty.avL xs))] [] (fun r _ => r = .sl 2 (Ty.avL xs))) : AC P 44 [.pv (Ty.mk k xs).av] [] (fun r _ => r = (Ty.mk k xs).av) := by
  simp only [Ty.av]
  have he : PV.eraseL (Ty.avL xs) = Ty.avL xs := Ty.eraseL_of fun x _ => Ty.erase x
  generalize Ty.avL xs = X at *
  refine AC.introQ hP.tab hP.mixed hP.f44 rfl (by kernel_rfl) [] fun O Q hO hQ => ?_
  obtain ⟨len, nth, sub, app, fits, add, min_, mul, quo, rem, and, or, xor, shl, shr, eq, lt, le, wrap, imax, imin, seq, sapp, sfits, ssize, sat, ssub, bytes, sbytes, erase, mfits, rep, inB, olay, mull, tonat, inM⟩ := O
  obtain ⟨f_len, f_nth, f_add, f_sub, f_eq, f_lt, f_le, f_wrap, f_mfits, f_rep, f_inB, f_olay, f_mull, f_tonat, f_inM, f_erase, f_seq, f_ssize⟩ : (∀ es, len es = es.length) ∧ (∀ es (i : Nat), nth es (Int.ofNat i) = es[i]?) ∧ (∀ a b, add .i64 a b = IntKind.i64.wrap (a + b)) ∧ (∀ a b, min_ .i64 a b = IntKind.i64.wrap (a - b)) ∧
      (∀ a b, eq a b = (a == b)) ∧ (∀ a b, lt a b = decide (a < b)) ∧ (∀ a b, le a b = decide (a ≤ b)) ∧ (∀ k a, wrap k a = IntKind.wrap k a) ∧
      (∀ n b, mfits n b = (0 ≤ n ∧ n * b ≤ 140737488355328 ∧ n ≤ 4611686018427387904)) ∧ (∀ n z, rep n z = (List.replicate n.toNat z).flatten) ∧ (∀ cs off n, inB cs off n = (off + n ≤ cs.length)) ∧ (∀ cs off vs, olay cs off vs = lay cs off vs) ∧
      (∀ n sz, mull n sz = n.toNat * sz) ∧ (∀ n, tonat n = n.toNat) ∧ (∀ n l, inM n l = decide (0 ≤ n ∧ n < (l : Int))) ∧ (∀ r, erase r = PV.erase r) ∧
      (∀ x y, seq x y = (x.toList == y.toList)) ∧ (∀ x, ssize x = x.size) := by
    cases hO; exact ⟨fun _ => rfl, fun _ _ => by simp, fun _ _ => rfl, fun _ _ => rfl, fun _ _ => rfl, fun _ _ => rfl, fun _ _ => rfl, fun _ _ => rfl, fun _ _ => rfl, fun _ _ => rfl, fun _ _ _ => rfl, fun _ _ _ => rfl, fun _ _ => rfl, fun _ => rfl, fun _ _ => rfl, fun _ => rfl, fun _ _ => rfl, fun _ => rfl⟩
  clear hO
  conv => cbv
  refine .inl ⟨_, hcall, ?_⟩
  rintro r _ rfl -
  conv => cbv
  refine ⟨by simp, Or.inl (hQ _ _ ?_)⟩
  show erase _ = _
  rw [f_erase]
  simp only [PV.erase, PV.eraseL, he]

theorem ac76 (xs : List Ty) (hlx : xs.length ≤ 1048576) (hcall : ∀ x ∈ xs, AC P 44 [.pv (Ty.av x)] [] (fun r _ => r = Ty.av x)) : AC P 76 [.pv (.sl 2 (Ty.avL xs))] [] (fun r _ => r = .sl 2 (Ty.avL xs)) := by
  have gx := Ty.avL_get xs
  have lx := Ty.avL_length xs
  have he : PV.eraseL (Ty.avL xs) = Ty.avL xs := Ty.eraseL_of fun x _ => Ty.erase x
  have cf : ∀ e ∈ Ty.avL xs, e.cells.length = 2 ∧ e = .agg e.cells := by
    intro e he
    rw [Ty.avL_eq] at he
    obtain ⟨t, _, rfl⟩ := List.mem_map.1 he
    cases t with | mk k l => exact ⟨rfl, rfl⟩
  generalize Ty.avL xs = X at *
  refine AC.introQ hP.tab hP.mixed hP.f76 rfl (by kernel_rfl) [7] fun O Q hO hQ => ?_
  obtain ⟨len, nth, sub, app, fits, add, min_, mul, quo, rem, and, or, xor, shl, shr, eq, lt, le, wrap, imax, imin, seq, sapp, sfits, ssize, sat, ssub, bytes, sbytes, erase, mfits, rep, inB, olay, mull, tonat, inM⟩ := O
  obtain ⟨f_len, f_nth, f_add, f_sub, f_eq, f_lt, f_le, f_wrap, f_mfits, f_rep, f_inB, f_olay, f_mull, f_tonat, f_inM, f_erase, f_seq, f_ssize⟩ : (∀ es, len es = es.length) ∧ (∀ es (i : Nat), nth es (Int.ofNat i) = es[i]?) ∧ (∀ a b, add .i64 a b = IntKind.i64.wrap (a + b)) ∧ (∀ a b, min_ .i64 a b = IntKind.i64.wrap (a - b)) ∧
      (∀ a b, eq a b = (a == b)) ∧ (∀ a b, lt a b = decide (a < b)) ∧ (∀ a b, le a b = decide (a ≤ b)) ∧ (∀ k a, wrap k a = IntKind.wrap k a) ∧
      (∀ n b, mfits n b = (0 ≤ n ∧ n * b ≤ 140737488355328 ∧ n ≤ 4611686018427387904)) ∧ (∀ n z, rep n z = (List.replicate n.toNat z).flatten) ∧ (∀ cs off n, inB cs off n = (off + n ≤ cs.length)) ∧ (∀ cs off vs, olay cs off vs = lay cs off vs) ∧
      (∀ n sz, mull n sz = n.toNat * sz) ∧ (∀ n, tonat n = n.toNat) ∧ (∀ n l, inM n l = decide (0 ≤ n ∧ n < (l : Int))) ∧ (∀ r, erase r = PV.erase r) ∧
      (∀ x y, seq x y = (x.toList == y.toList)) ∧ (∀ x, ssize x = x.size) := by
    cases hO; exact ⟨fun _ => rfl, fun _ _ => by simp, fun _ _ => rfl, fun _ _ => rfl, fun _ _ => rfl, fun _ _ => rfl, fun _ _ => rfl, fun _ _ => rfl, fun _ _ => rfl, fun _ _ => rfl, fun _ _ _ => rfl, fun _ _ _ => rfl, fun _ _ => rfl, fun _ => rfl, fun _ _ => rfl, fun _ => rfl, fun _ _ => rfl, fun _ => rfl⟩
  clear hO
  conv => cbv
  have hXc : ∀ e ∈ X, e.cells.length = 2 := fun e he => (cf e he).1
  obtain ⟨C, hC⟩ : ∃ C : Nat → List AV, ∀ i, C i = msC X [.pv (.lit (.int .i64 0)), .pv (.own 0 none 2 [])] i := ⟨_, fun _ => rfl⟩
  have c0 : rep (Int.ofNat (len X)) [.pv (.lit (.int .i64 0)), .pv (.own 0 none 2 [])] = C 0 := by rw [f_rep, f_len, hC, msC_zero]; rfl
  have cIds : ∀ i, AV.idsL (C i) = [] := fun i => by rw [hC]; exact msC_ids (by simp)
  have cIn : ∀ i, i < xs.length → inB (C i) (mull (Int.ofNat i) 2) 2 := fun i hi => by
    rw [f_inB, f_mull, hC, msC_len (sz := 2) (by simp) hXc (by omega)]
    show i * 2 + 2 ≤ _
    have : (i + 1) * 2 ≤ X.length * 2 := Nat.mul_le_mul_right _ (by omega)
    omega
  rw [c0]
  refine ⟨?_, ?_⟩
  · rw [f_mfits, f_len, lx]
    exact ⟨by simp, by simp; omega, by simp; omega⟩
  refine loopE (ι := Nat) (fun i => ⟨mkT 23 [(0, .pv (.sl 2 X)), (3, .msl 7 2 (tonat (Int.ofNat (len X)))), (4, .pv (.lit (.int .i64 (Int.ofNat i))))], [(7, C i)], [], fun _ => False⟩)
    (fun i => i ≤ xs.length) (fun i => xs.length - i) 0 (Nat.zero_le _) ?_ ?_
  · refine ⟨?_, ⟨by simp [lk], trivial⟩, trivial, rfl, ?_, rfl, fun _ h => h⟩
    · conv => cbv
      simp
    · show (refsIn _ (C 0) && true) = true
      rw [refsIn_nil (cIds 0)]; rfl
  · rintro i hi Nx hNx
    conv => cbv
    refine br (fun h1 => ?_) (fun h1 => ?_) <;> (try rw [h1]) <;> conv => cbv
    · rw [f_lt, f_len, lx] at h1
      have hi' : i < xs.length := by simpa using h1
      have hxi : xs[i]? = some xs[i] := List.getElem?_eq_getElem hi'
      have hmem : xs[i] ∈ xs := List.getElem_mem hi'
      have hc := hcall _ hmem
      have hn1 : nth X (Int.ofNat i) = some (xs[i]).av := by rw [f_nth, gx, hxi]; rfl
      have hst : olay (C i) (mull (Int.ofNat i) 2) ((xs[i]).av.cells.map .pv) = C (i + 1) := by
        rw [f_olay, f_mull, hC, hC]
        exact msC_step (by simp) hXc (by rw [gx, hxi]; rfl)
      have hM : inM (Int.ofNat i) (tonat (Int.ofNat (len X))) = true := by
        rw [f_inM, f_tonat, f_len, lx]; simp; omega
      generalize xs[i] = x at *
      rcases x with ⟨kx, cx⟩
      simp only [Ty.av] at hn1 hc hst
      generalize Ty.avL cx = CX at *
      rw [hn1]
      conv => cbv
      first | refine .inl ⟨_, hc, ?_⟩ | refine ⟨_, hc, ?_⟩
      rintro r _ rfl -
      conv => cbv
      rw [hM]
      conv => cbv
      refine ⟨cIn i hi', ?_⟩
      simp only [PV.cells, List.map_cons, List.map_nil] at hst
      refine hNx _ (i + 1) hi' (by omega) ?_
      have e : add .i64 (Int.ofNat i) 1 = Int.ofNat (i + 1) := by
        rw [f_add, wrap_id (by simp; omega) (by simp; omega)]; rfl
      rw [hst]
      refine ⟨?_, ⟨by simp [lk], trivial⟩, trivial, rfl, ?_, rfl, ?_⟩
      · conv => cbv
        rw [e]
        simp
      · show (refsIn _ (C (i + 1)) && true) = true
        rw [refsIn_nil (cIds _)]; rfl
      · simp
    · rw [f_lt, f_len, lx] at h1
      have hi' : i = xs.length := by simp at h1; omega
      subst hi'
      have hn : tonat (Int.ofNat (len X)) = X.length := by rw [f_tonat, f_len]; rfl
      have hl : C xs.length = (X.flatMap PV.cells).map .pv := by rw [hC, ← lx, msC_all]
      refine ⟨by simp, X.flatMap PV.cells, ?_, ?_, by omega, by omega, fun b _ => Or.inr (hQ _ _ ?_)⟩
      · show allPV (C xs.length) = _
        rw [hl, allPV_map]
      · rw [hn, ← msC_len (z := [.pv (.lit (.int .i64 0)), .pv (.own 0 none 2 [])]) (sz := 2) (by simp) hXc (Nat.le_refl _), msC_all, List.length_map]
      · rw [hn, chunk_agg (by omega) cf]
        simp only [PV.erase, he]

end Go.Proofs.Ytikjhmifgedlbaa
