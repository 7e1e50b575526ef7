/- Measures, sizes and equality of the program's data. -/
import Derived.Test.YtbbncbojkkackaaPu
set_option linter.unusedVariables false
set_option linter.unusedSimpArgs false
namespace Go.Tx
open Go.Pu

mutual
def Ty.m : Ty → Nat
  | .mk _ a => 3 + Ty.mL a
def Ty.mL : List Ty → Nat
  | [] => 0
  | x :: r => 1 + Ty.m x + Ty.mL r
end
mutual
def Ex.m : Ex → Nat
  | .mk _ _ _ t a => 5 + Ty.m t + Ex.mL a
def Ex.mL : List Ex → Nat
  | [] => 0
  | x :: r => 1 + Ex.m x + Ex.mL r
end
mutual
def Co.m : Co → Nat
  | .mk _ _ _ f t a e => 7 + Ty.m f + Ty.m t + Co.mL a + Co.mE e
def Co.mL : List Co → Nat
  | [] => 0
  | x :: r => 1 + Co.m x + Co.mL r
def Co.mE : List (ByteArray × Co) → Nat
  | [] => 0
  | x :: r => 1 + Co.mP x + Co.mE r
def Co.mP : ByteArray × Co → Nat
  | (_, c) => Co.m c
end
mutual
def Ty.sz : Ty → Nat
  | .mk _ a => Ty.szs a
def Ty.szs : List Ty → Nat
  | [] => 0
  | x :: r => 1 + Ty.sz x + Ty.szs r
end
mutual
def Ex.sz : Ex → Nat
  | .mk _ nm _ t a => nm.size + Ty.sz t + Ex.szs a
def Ex.szs : List Ex → Nat
  | [] => 0
  | x :: r => 1 + Ex.sz x + Ex.szs r
end
mutual
def Co.sz : Co → Nat
  | .mk _ nm _ f t a e => nm.size + Ty.sz f + Ty.sz t + Co.szs a + Co.szE e
def Co.szs : List Co → Nat
  | [] => 0
  | x :: r => 1 + Co.sz x + Co.szs r
def Co.szE : List (ByteArray × Co) → Nat
  | [] => 0
  | x :: r => 1 + Co.szP x + Co.szE r
def Co.szP : ByteArray × Co → Nat
  | (n, c) => n.size + Co.sz c
end
def Bi.sz (b : Bi) : Nat := b.1.size + Co.sz b.2
def Bi.m (b : Bi) : Nat := Co.m b.2
theorem Ty.szs_eq (l : List Ty) : Ty.szs l = szL Ty.sz l := by
  induction l with
  | nil => rfl
  | cons x r ih => simp only [Ty.szs, szL, ih]
theorem Ex.szs_eq (l : List Ex) : Ex.szs l = szL Ex.sz l := by
  induction l with
  | nil => rfl
  | cons x r ih => simp only [Ex.szs, szL, ih]
theorem Co.szs_eq (l : List Co) : Co.szs l = szL Co.sz l := by
  induction l with
  | nil => rfl
  | cons x r ih => simp only [Co.szs, szL, ih]
theorem Co.szE_eq (l : List Bi) : Co.szE l = szL Bi.sz l := by
  induction l with
  | nil => rfl
  | cons x r ih => obtain ⟨n, c⟩ := x; simp only [Co.szE, szL, ih, Co.szP, Bi.sz]
theorem Ty.mL_len (l : List Ty) : l.length ≤ Ty.mL l := by
  induction l with
  | nil => simp [Ty.mL]
  | cons x r ih => simp only [Ty.mL, List.length_cons]; omega
theorem Ty.mL_mem {l : List Ty} {x : Ty} (h : x ∈ l) : Ty.m x ≤ Ty.mL l := by
  induction l with
  | nil => cases h
  | cons y r ih =>
    simp only [Ty.mL]
    rcases List.mem_cons.1 h with rfl | h
    · omega
    · have := ih h; omega
theorem Ex.mL_len (l : List Ex) : l.length ≤ Ex.mL l := by
  induction l with
  | nil => simp [Ex.mL]
  | cons x r ih => simp only [Ex.mL, List.length_cons]; omega
theorem Ex.mL_mem {l : List Ex} {x : Ex} (h : x ∈ l) : Ex.m x ≤ Ex.mL l := by
  induction l with
  | nil => cases h
  | cons y r ih =>
    simp only [Ex.mL]
    rcases List.mem_cons.1 h with rfl | h
    · omega
    · have := ih h; omega
theorem Co.mL_len (l : List Co) : l.length ≤ Co.mL l := by
  induction l with
  | nil => simp [Co.mL]
  | cons x r ih => simp only [Co.mL, List.length_cons]; omega
theorem Co.mL_mem {l : List Co} {x : Co} (h : x ∈ l) : Co.m x ≤ Co.mL l := by
  induction l with
  | nil => cases h
  | cons y r ih =>
    simp only [Co.mL]
    rcases List.mem_cons.1 h with rfl | h
    · omega
    · have := ih h; omega
theorem Co.mE_len (l : List Bi) : l.length ≤ Co.mE l := by
  induction l with
  | nil => simp [Co.mE]
  | cons x r ih => simp only [Co.mE, List.length_cons]; omega
theorem Co.mE_mem {l : List Bi} {x : Bi} (h : x ∈ l) : Bi.m x ≤ Co.mE l := by
  induction l with
  | nil => cases h
  | cons y r ih =>
    simp only [Co.mE]
    rcases List.mem_cons.1 h with rfl | h
    · obtain ⟨n, c⟩ := x; simp only [Co.mP, Bi.m]; omega
    · have := ih h; omega

mutual
def Ty.beq : Ty → Ty → Bool
  | .mk k a, .mk k' b => (k == k') && Ty.beqs a b
def Ty.beqs : List Ty → List Ty → Bool
  | [], [] => true
  | x :: xs, y :: ys => Ty.beq x y && Ty.beqs xs ys
  | _, _ => false
end
mutual
def Ex.beq : Ex → Ex → Bool
  | .mk k nm n t a, .mk k' nm' n' t' b => (k == k') && (seqT nm nm' && ((n == n') && (Ty.beq t t' && Ex.beqs a b)))
def Ex.beqs : List Ex → List Ex → Bool
  | [], [] => true
  | x :: xs, y :: ys => Ex.beq x y && Ex.beqs xs ys
  | _, _ => false
end
mutual
def Co.beq : Co → Co → Bool
  | .mk k nm n f t a e, .mk k' nm' n' f' t' b g => (k == k') && (seqT nm nm' && ((n == n') && (Ty.beq f f' && (Ty.beq t t' && (Co.beqs a b && Co.beqE e g)))))
def Co.beqs : List Co → List Co → Bool
  | [], [] => true
  | x :: xs, y :: ys => Co.beq x y && Co.beqs xs ys
  | _, _ => false
def Co.beqE : List (ByteArray × Co) → List (ByteArray × Co) → Bool
  | [], [] => true
  | x :: xs, y :: ys => Co.beqP x y && Co.beqE xs ys
  | _, _ => false
def Co.beqP : ByteArray × Co → ByteArray × Co → Bool
  | (n, c), (m, d) => seqT n m && Co.beq c d
end
def Bi.beq (a b : Bi) : Bool := seqT a.1 b.1 && Co.beq a.2 b.2
theorem Ty.beqs_eq : ∀ (a b : List Ty), Ty.beqs a b = beqL Ty.beq a b
  | [], [] => by simp only [Ty.beqs, beqL]
  | x :: xs, y :: ys => by simp only [Ty.beqs, beqL, Ty.beqs_eq xs ys]
  | [], _ :: _ => by simp only [Ty.beqs, beqL]
  | _ :: _, [] => by simp only [Ty.beqs, beqL]
theorem Ex.beqs_eq : ∀ (a b : List Ex), Ex.beqs a b = beqL Ex.beq a b
  | [], [] => by simp only [Ex.beqs, beqL]
  | x :: xs, y :: ys => by simp only [Ex.beqs, beqL, Ex.beqs_eq xs ys]
  | [], _ :: _ => by simp only [Ex.beqs, beqL]
  | _ :: _, [] => by simp only [Ex.beqs, beqL]
theorem Co.beqs_eq : ∀ (a b : List Co), Co.beqs a b = beqL Co.beq a b
  | [], [] => by simp only [Co.beqs, beqL]
  | x :: xs, y :: ys => by simp only [Co.beqs, beqL, Co.beqs_eq xs ys]
  | [], _ :: _ => by simp only [Co.beqs, beqL]
  | _ :: _, [] => by simp only [Co.beqs, beqL]
theorem Co.beqE_eq : ∀ (a b : List Bi), Co.beqE a b = beqL Bi.beq a b
  | [], [] => by simp only [Co.beqE, beqL]
  | (n, c) :: xs, (m, d) :: ys => by simp only [Co.beqE, Co.beqP, beqL, Bi.beq, Co.beqE_eq xs ys]
  | [], _ :: _ => by simp only [Co.beqE, beqL]
  | _ :: _, [] => by simp only [Co.beqE, beqL]
theorem seqT_refl (s : ByteArray) : seqT s s = true := by simp [seqT]
mutual
theorem Ty.beq_refl : ∀ t : Ty, Ty.beq t t = true
  | .mk k a => by simp [Ty.beq, Ty.beqs_refl a]
theorem Ty.beqs_refl : ∀ l : List Ty, Ty.beqs l l = true
  | [] => by simp only [Ty.beqs]
  | x :: r => by simp [Ty.beqs, Ty.beq_refl x, Ty.beqs_refl r]
end
mutual
theorem Ex.beq_refl : ∀ t : Ex, Ex.beq t t = true
  | .mk k nm n t a => by simp [Ex.beq, seqT_refl, Ty.beq_refl, Ex.beqs_refl a]
theorem Ex.beqs_refl : ∀ l : List Ex, Ex.beqs l l = true
  | [] => by simp only [Ex.beqs]
  | x :: r => by simp [Ex.beqs, Ex.beq_refl x, Ex.beqs_refl r]
end
mutual
theorem Co.beq_refl : ∀ t : Co, Co.beq t t = true
  | .mk k nm n f t a e => by simp [Co.beq, seqT_refl, Ty.beq_refl, Co.beqs_refl a, Co.beqE_refl e]
theorem Co.beqs_refl : ∀ l : List Co, Co.beqs l l = true
  | [] => by simp only [Co.beqs]
  | x :: r => by simp [Co.beqs, Co.beq_refl x, Co.beqs_refl r]
theorem Co.beqE_refl : ∀ l : List (ByteArray × Co), Co.beqE l l = true
  | [] => by simp only [Co.beqE]
  | x :: r => by simp [Co.beqE, Co.beqP_refl x, Co.beqE_refl r]
theorem Co.beqP_refl : ∀ x : ByteArray × Co, Co.beqP x x = true
  | (n, c) => by simp [Co.beqP, seqT_refl, Co.beq_refl c]
end

-- no slice or string is longer than Go's are
mutual
def Ty.ok : Ty → Prop
  | .mk _ a => a.length ≤ 9223372036854775807 ∧ Ty.oks a
def Ty.oks : List Ty → Prop
  | [] => True
  | x :: r => Ty.ok x ∧ Ty.oks r
end
mutual
def Ex.ok : Ex → Prop
  | .mk _ nm _ t a => nm.size ≤ 9223372036854775807 ∧ Ty.ok t ∧ a.length ≤ 9223372036854775807 ∧ Ex.oks a
def Ex.oks : List Ex → Prop
  | [] => True
  | x :: r => Ex.ok x ∧ Ex.oks r
end
mutual
def Co.ok : Co → Prop
  | .mk _ nm _ f t a e => nm.size ≤ 9223372036854775807 ∧ Ty.ok f ∧ Ty.ok t ∧ a.length ≤ 9223372036854775807 ∧ Co.oks a ∧ e.length ≤ 9223372036854775807 ∧ Co.okE e
def Co.oks : List Co → Prop
  | [] => True
  | x :: r => Co.ok x ∧ Co.oks r
def Co.okE : List (ByteArray × Co) → Prop
  | [] => True
  | x :: r => Co.okP x ∧ Co.okE r
def Co.okP : ByteArray × Co → Prop
  | (n, c) => n.size ≤ 9223372036854775807 ∧ Co.ok c
end
def Bi.ok (b : Bi) : Prop := b.1.size ≤ 9223372036854775807 ∧ Co.ok b.2
theorem Ty.oks_iff {l : List Ty} : Ty.oks l ↔ ∀ x ∈ l, Ty.ok x := by
  induction l with
  | nil => simp [Ty.oks]
  | cons x r ih => simp [Ty.oks, ih]
theorem Ex.oks_iff {l : List Ex} : Ex.oks l ↔ ∀ x ∈ l, Ex.ok x := by
  induction l with
  | nil => simp [Ex.oks]
  | cons x r ih => simp [Ex.oks, ih]
theorem Co.oks_iff {l : List Co} : Co.oks l ↔ ∀ x ∈ l, Co.ok x := by
  induction l with
  | nil => simp [Co.oks]
  | cons x r ih => simp [Co.oks, ih]
theorem Co.okE_iff {l : List Bi} : Co.okE l ↔ ∀ x ∈ l, Bi.ok x := by
  induction l with
  | nil => simp [Co.okE]
  | cons x r ih => obtain ⟨n, c⟩ := x; simp [Co.okE, Co.okP, Bi.ok, ih]

-- what is not too large is not too long
mutual
theorem Ty.ok_of : ∀ {t : Ty}, t.sz ≤ 9223372036854775807 → t.ok
  | .mk k a, h => by
    simp only [Ty.sz] at h
    have := szL_len Ty.sz a
    rw [← Ty.szs_eq] at this
    exact ⟨by omega, Ty.oks_of h⟩
theorem Ty.oks_of : ∀ {l : List Ty}, Ty.szs l ≤ 9223372036854775807 → Ty.oks l
  | [], _ => trivial
  | x :: r, h => by
    simp only [Ty.szs] at h
    exact ⟨Ty.ok_of (by omega), Ty.oks_of (by omega)⟩
end
mutual
theorem Ex.ok_of : ∀ {t : Ex}, t.sz ≤ 9223372036854775807 → t.ok
  | .mk k nm n t a, h => by
    simp only [Ex.sz] at h
    have := szL_len Ex.sz a
    rw [← Ex.szs_eq] at this
    exact ⟨by omega, Ty.ok_of (by omega), by omega, Ex.oks_of (by omega)⟩
theorem Ex.oks_of : ∀ {l : List Ex}, Ex.szs l ≤ 9223372036854775807 → Ex.oks l
  | [], _ => trivial
  | x :: r, h => by
    simp only [Ex.szs] at h
    exact ⟨Ex.ok_of (by omega), Ex.oks_of (by omega)⟩
end
mutual
theorem Co.ok_of : ∀ {t : Co}, t.sz ≤ 9223372036854775807 → t.ok
  | .mk k nm n f t a e, h => by
    simp only [Co.sz] at h
    have h1 := szL_len Co.sz a
    rw [← Co.szs_eq] at h1
    have h2 := szL_len Bi.sz e
    rw [← Co.szE_eq] at h2
    exact ⟨by omega, Ty.ok_of (by omega), Ty.ok_of (by omega), by omega, Co.oks_of (by omega), by omega, Co.okE_of (by omega)⟩
theorem Co.oks_of : ∀ {l : List Co}, Co.szs l ≤ 9223372036854775807 → Co.oks l
  | [], _ => trivial
  | x :: r, h => by
    simp only [Co.szs] at h
    exact ⟨Co.ok_of (by omega), Co.oks_of (by omega)⟩
theorem Co.okE_of : ∀ {l : List (ByteArray × Co)}, Co.szE l ≤ 9223372036854775807 → Co.okE l
  | [], _ => trivial
  | x :: r, h => by
    simp only [Co.szE] at h
    exact ⟨Co.okP_of (by omega), Co.okE_of (by omega)⟩
theorem Co.okP_of : ∀ {l : ByteArray × Co}, Co.szP l ≤ 9223372036854775807 → Co.okP l
  | (n, c), h => by
    simp only [Co.szP] at h
    exact ⟨by omega, Co.ok_of (by omega)⟩
end
end Go.Tx
