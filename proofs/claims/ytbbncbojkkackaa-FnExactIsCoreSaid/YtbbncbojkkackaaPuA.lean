/- Plain laws of loops and of the data, and what a reading of data says of the values read. -/
import Derived.Test.YtbbncbojkkackaaTxU
import Derived.Test.YtbbncbojkkackaaAxU
import Derived.Test.YtbbncbojkkackaaAxRd
import Derived.Test.YtbbncbojkkackaaTxN
set_option linter.unusedVariables false
set_option linter.unusedSimpArgs false
namespace Go.Pu
open Go.Tx

theorem w64_id {x : Int} (h1 : -9223372036854775808 ≤ x) (h2 : x ≤ 9223372036854775807) : w64 x = x := by
  simp only [w64, IntKind.wrap, IntKind.bits, IntKind.signed, Bool.true_and]
  split <;> simp_all <;> omega

theorem nthT_nat {α : Type} (xs : List α) (k : Nat) : nthT xs (k : Int) = xs[k]? := by
  unfold nthT
  rw [if_pos (by omega)]
  simp

/-- A list, walked through. -/
def foldK {α S R : Type} (body : α → S → (S → Option R) → Option R) (fin : S → Option R) : List α → S → Option R
  | [], s => fin s
  | x :: r, s => body x s (foldK body fin r)

theorem loop_ok {α S R : Type} (xs : List α) (hx : xs.length ≤ 9223372036854775807) (L : Nat → Int → S → Option R) (body : α → S → (S → Option R) → Option R) (fin : Nat → S → Option R)
    (h : ∀ m (k : Nat) s, k ≤ xs.length → L (m + 1) k s = bif decide ((k : Int) < (xs.length : Int)) then (nthT xs k).bind fun x => body x s (fun s' => L m (w64 ((k : Int) + 1)) s') else fin m s) :
    ∀ m s, xs.length < m → L m 0 s = foldK body (fin (m - xs.length - 1)) xs s := by
  have main : ∀ (d k m : Nat) s, k + d = xs.length → d < m → L m k s = foldK body (fin (m - d - 1)) (xs.drop k) s := by
    intro d
    induction d with
    | zero =>
      intro k m s hk hm
      obtain ⟨m, rfl⟩ : ∃ q, m = q + 1 := ⟨m - 1, by omega⟩
      rw [h m k s (by omega)]
      have : decide ((k : Int) < (xs.length : Int)) = false := by simp; omega
      rw [this, List.drop_eq_nil_of_le (by omega)]
      simp [foldK]
    | succ d ih =>
      intro k m s hk hm
      obtain ⟨m, rfl⟩ : ∃ q, m = q + 1 := ⟨m - 1, by omega⟩
      rw [h m k s (by omega)]
      have hlt : k < xs.length := by omega
      have : decide ((k : Int) < (xs.length : Int)) = true := by simp; omega
      rw [this, cond_true, nthT_nat, List.getElem?_eq_getElem hlt, Option.bind_some, List.drop_eq_getElem_cons hlt]
      have e : w64 ((k : Int) + 1) = ((k + 1 : Nat) : Int) := by rw [w64_id (by omega) (by omega)]; rfl
      simp only [foldK, e]
      congr 1
      funext s'
      rw [ih (k + 1) m s' (by omega) (by omega), show m + 1 - (d + 1) - 1 = m - d - 1 by omega]
  intro m s hm
  have := main xs.length 0 m s (by omega) hm
  simpa using this

theorem foldK_congr {α S R : Type} {body body' : α → S → (S → Option R) → Option R} {fin : S → Option R} : ∀ {xs : List α} {s : S}, (∀ x ∈ xs, ∀ s K, body x s K = body' x s K) → foldK body fin xs s = foldK body' fin xs s
  | [], s, _ => rfl
  | x :: r, s, h => by
    simp only [foldK]
    rw [h x (by simp)]
    congr 1
    funext s'
    exact foldK_congr fun y hy => h y (by simp [hy])

theorem foldK_pure {α S R : Type} (f : S → α → S) {fin : S → Option R} : ∀ {xs : List α} {s : S}, foldK (fun x s K => K (f s x)) fin xs s = fin (xs.foldl f s)
  | [], s => rfl
  | x :: r, s => by simp only [foldK, List.foldl_cons]; exact foldK_pure f

/-- Equality of lists by elements. -/
def beqL {α : Type} (eq : α → α → Bool) : List α → List α → Bool
  | [], [] => true
  | x :: xs, y :: ys => eq x y && beqL eq xs ys
  | _, _ => false

theorem beqL_refl {α : Type} {eq : α → α → Bool} {xs : List α} (h : ∀ x ∈ xs, eq x x = true) : beqL eq xs xs = true := by
  induction xs with
  | nil => rfl
  | cons x r ih => simp only [beqL, h x (by simp), ih fun y hy => h y (by simp [hy]), Bool.and_true]

theorem beqL_len {α : Type} {eq : α → α → Bool} : ∀ {xs ys : List α}, beqL eq xs ys = true → xs.length = ys.length
  | [], [], _ => rfl
  | x :: xs, y :: ys, h => by
    simp only [beqL, Bool.and_eq_true] at h
    simp [beqL_len h.2]
  | [], _ :: _, h => by cases h
  | _ :: _, [], h => by cases h

/-- The loop of an equality of lists. -/
theorem eq_loop {α : Type} (eq : α → α → Bool) (g : α → α → Option Bool) (L : Nat → Int → Option Bool) (a b : List α) (ha : a.length ≤ 9223372036854775807) (hab : a.length = b.length)
    (hg : ∀ x ∈ a, ∀ y, g x y = some (eq x y))
    (h : ∀ m (k : Nat), k ≤ a.length → L (m + 1) k = bif decide ((k : Int) < (a.length : Int)) then (nthT a k).bind fun x => (nthT b k).bind fun y => (g x y).bind fun v => bif !v then some false else L m (w64 ((k : Int) + 1)) else some true) :
    ∀ m, a.length < m → L m 0 = some (beqL eq a b) := by
  have main : ∀ (d k m : Nat), k + d = a.length → d < m → L m k = some (beqL eq (a.drop k) (b.drop k)) := by
    intro d
    induction d with
    | zero =>
      intro k m hk hm
      obtain ⟨m, rfl⟩ : ∃ q, m = q + 1 := ⟨m - 1, by omega⟩
      rw [h m k (by omega)]
      have : decide ((k : Int) < (a.length : Int)) = false := by simp; omega
      rw [this, List.drop_eq_nil_of_le (by omega), List.drop_eq_nil_of_le (by omega)]
      rfl
    | succ d ih =>
      intro k m hk hm
      obtain ⟨m, rfl⟩ : ∃ q, m = q + 1 := ⟨m - 1, by omega⟩
      rw [h m k (by omega)]
      have hlt : k < a.length := by omega
      have hlt2 : k < b.length := by omega
      have : decide ((k : Int) < (a.length : Int)) = true := by simp; omega
      have e : w64 ((k : Int) + 1) = ((k + 1 : Nat) : Int) := by rw [w64_id (by omega) (by omega)]; rfl
      rw [this, cond_true, nthT_nat, nthT_nat, List.getElem?_eq_getElem hlt, List.getElem?_eq_getElem hlt2, Option.bind_some, Option.bind_some, hg _ (List.getElem_mem hlt), Option.bind_some, e, ih (k + 1) m (by omega) (by omega),
        List.drop_eq_getElem_cons hlt, List.drop_eq_getElem_cons hlt2]
      simp only [beqL]
      cases eq a[k] b[k] <;> rfl
  intro m hm
  have := main a.length 0 m (by omega) hm
  simpa using this

theorem eq_list {α : Type} (eq : α → α → Bool) {a b : List α} {x : Option Bool} (h : a.length = b.length → x = some (beqL eq a b)) :
    (bif ((a.length : Int) != (b.length : Int)) then some false else x) = some (beqL eq a b) := by
  by_cases hl : a.length = b.length
  · rw [h hl]
    have : ((a.length : Int) != (b.length : Int)) = false := by simp [hl]
    rw [this]; rfl
  · have : ((a.length : Int) != (b.length : Int)) = true := by simp; omega
    rw [this]
    cases hb : beqL eq a b
    · rfl
    · exact absurd (beqL_len hb) hl

/-- The loop of a copy into a slice that was made. -/
theorem to_loop {α : Type} (g : α → Option α) (L : Nat → Int → List α → Option (List α)) (a : List α) (ha : a.length ≤ 9223372036854775807) (hg : ∀ x ∈ a, g x = some x)
    (h : ∀ m (k : Nat) b, k ≤ a.length → L (m + 1) k b = bif decide ((k : Int) < (a.length : Int)) then (nthT a k).bind fun x => (g x).bind fun y => (if inT (k : Int) (a.length : Int).toNat then some (k : Int) else none).bind fun j =>
      bif inT j b.length then L m (w64 ((k : Int) + 1)) (b.set j.toNat y) else none else bif Nat.beq b.length (a.length : Int).toNat then some b else none) :
    ∀ m b, b.length = a.length → a.length < m → L m 0 b = some a := by
  have main : ∀ (d k m : Nat) b, k + d = a.length → d < m → b.length = a.length → L m k b = some (b.take k ++ a.drop k) := by
    intro d
    induction d with
    | zero =>
      intro k m b hk hm hb
      obtain ⟨m, rfl⟩ : ∃ q, m = q + 1 := ⟨m - 1, by omega⟩
      rw [h m k b (by omega)]
      have : decide ((k : Int) < (a.length : Int)) = false := by simp; omega
      have h2 : Nat.beq b.length (a.length : Int).toNat = true := by rw [Nat.beq_eq]; simp [hb]
      rw [this, cond_false, h2, cond_true, List.drop_eq_nil_of_le (by omega), List.take_of_length_le (by omega), List.append_nil]
    | succ d ih =>
      intro k m b hk hm hb
      obtain ⟨m, rfl⟩ : ∃ q, m = q + 1 := ⟨m - 1, by omega⟩
      rw [h m k b (by omega)]
      have hlt : k < a.length := by omega
      have : decide ((k : Int) < (a.length : Int)) = true := by simp; omega
      have e : w64 ((k : Int) + 1) = ((k + 1 : Nat) : Int) := by rw [w64_id (by omega) (by omega)]; rfl
      have i1 : inT (k : Int) (a.length : Int).toNat = true := by unfold inT; simp; omega
      have i2 : inT (k : Int) b.length = true := by unfold inT; simp; omega
      rw [this, cond_true, nthT_nat, List.getElem?_eq_getElem hlt, Option.bind_some, hg _ (List.getElem_mem hlt), Option.bind_some, i1, if_pos rfl, Option.bind_some, i2, cond_true, e,
        ih (k + 1) m _ (by omega) (by omega) (by simp [hb])]
      simp only [Int.toNat_natCast]
      congr 1
      rw [List.drop_eq_getElem_cons hlt, List.take_add_one, List.getElem?_set_self (by omega)]
      rw [List.take_set_of_le (Nat.le_refl _)]
      simp
  intro m b hb hm
  have := main a.length 0 m b (by omega) hm hb
  simpa using this

/-- What is left of `left` behind something of this size; -1 if it was too much. -/
def szR (s : Nat) (left : Int) : Int := if (s : Int) ≤ left then left - s else -1

/-- The sizes of elements, with one for each. -/
def szL {α : Type} (sz : α → Nat) : List α → Nat
  | [] => 0
  | x :: r => 1 + sz x + szL sz r
def szE {α : Type} (sz : α → Nat) : List α → Nat
  | [] => 0
  | x :: r => sz x + szE sz r
theorem szL_eq {α : Type} (sz : α → Nat) (xs : List α) : szL sz xs = xs.length + szE sz xs := by
  induction xs with
  | nil => rfl
  | cons x r ih => simp only [szL, szE, List.length_cons, ih]; omega
theorem szL_len {α : Type} (sz : α → Nat) (xs : List α) : xs.length ≤ szL sz xs := by rw [szL_eq]; omega
theorem szL_mem {α : Type} {sz : α → Nat} {xs : List α} {x : α} (h : x ∈ xs) : sz x + 1 ≤ szL sz xs := by
  induction xs with
  | nil => cases h
  | cons y r ih =>
    simp only [szL]
    rcases List.mem_cons.1 h with rfl | h
    · omega
    · have := ih h; omega

theorem szR_neg {s : Nat} {l : Int} (h0 : 0 ≤ l) : (decide (szR s l < 0) = true ↔ ¬ (s : Int) ≤ l) := by
  unfold szR
  split <;> simp <;> omega

/-- The loop of a size. -/
theorem sz_loop {α : Type} (sz : α → Nat) (g : α → Int → Option Int) (L : Nat → Int → Int → Option Int) (a : List α) (ha : a.length ≤ 9223372036854775807)
    (hg : ∀ x ∈ a, ∀ l : Int, 0 ≤ l → l ≤ 1048576 → g x l = some (szR (sz x) l))
    (h : ∀ m (k : Nat) (l : Int), k ≤ a.length → L (m + 1) k l = bif decide ((k : Int) < (a.length : Int)) then (nthT a k).bind fun x => (g x l).bind fun v => bif decide (v < 0) then some (-1) else L m (w64 ((k : Int) + 1)) v else some l) :
    ∀ m (l : Int), 0 ≤ l → l ≤ 1048576 → a.length < m → L m 0 l = some (szR (szE sz a) l) := by
  have main : ∀ (d k m : Nat) (l : Int), 0 ≤ l → l ≤ 1048576 → k + d = a.length → d < m → L m k l = some (szR (szE sz (a.drop k)) l) := by
    intro d
    induction d with
    | zero =>
      intro k m l h0 h1 hk hm
      obtain ⟨m, rfl⟩ : ∃ q, m = q + 1 := ⟨m - 1, by omega⟩
      rw [h m k l (by omega)]
      have : decide ((k : Int) < (a.length : Int)) = false := by simp; omega
      rw [this, List.drop_eq_nil_of_le (by omega)]
      simp [szR, szE, h0]
    | succ d ih =>
      intro k m l h0 h1 hk hm
      obtain ⟨m, rfl⟩ : ∃ q, m = q + 1 := ⟨m - 1, by omega⟩
      rw [h m k l (by omega)]
      have hlt : k < a.length := by omega
      have : decide ((k : Int) < (a.length : Int)) = true := by simp; omega
      have e : w64 ((k : Int) + 1) = ((k + 1 : Nat) : Int) := by rw [w64_id (by omega) (by omega)]; rfl
      rw [this, cond_true, nthT_nat, List.getElem?_eq_getElem hlt, Option.bind_some, hg _ (List.getElem_mem hlt) l h0 h1, Option.bind_some, e, List.drop_eq_getElem_cons hlt]
      simp only [szE]
      by_cases hs : (sz a[k] : Int) ≤ l
      · have e1 : szR (sz a[k]) l = l - sz a[k] := by rw [szR, if_pos hs]
        have e2 : decide (szR (sz a[k]) l < 0) = false := by rw [e1]; simp; omega
        rw [e2, cond_false, e1, ih (k + 1) m _ (by omega) (by omega) (by omega) (by omega)]
        unfold szR
        congr 1
        split <;> split <;> omega
      · have e1 : szR (sz a[k]) l = -1 := by rw [szR, if_neg hs]
        have e2 : decide (szR (sz a[k]) l < 0) = true := by rw [e1]; rfl
        rw [e2, cond_true]
        congr 1
        unfold szR
        rw [if_neg (by omega)]
  intro m l h0 h1 hm
  have := main a.length 0 m l h0 h1 (by omega) hm
  simpa using this

theorem szR_len {α : Type} (sz : α → Nat) (a : List α) (ha : a.length ≤ 9223372036854775807) {l : Int} (h0 : 0 ≤ l) (h1 : l ≤ 1048576) {x : Option Int} (h : (a.length : Int) ≤ l → x = some (szR (szE sz a) (l - a.length))) :
    (bif (decide ((w64 (l - (a.length : Int))) < 0)) then some (-1) else x) = some (szR (szL sz a) l) := by
  rw [w64_id (by omega) (by omega), szL_eq]
  by_cases hl : (a.length : Int) ≤ l
  · have : decide (l - (a.length : Int) < 0) = false := by simp; omega
    rw [this, cond_false, h hl]
    unfold szR
    congr 1
    split <;> split <;> omega
  · have : decide (l - (a.length : Int) < 0) = true := by simp; omega
    rw [this, cond_true]
    unfold szR
    rw [if_neg (by omega)]

/-- One size behind another. -/
theorem szR_step {s t : Nat} {l : Int} {x : Option Int} (h0 : 0 ≤ l) (h : (s : Int) ≤ l → x = some (szR t (l - s))) :
    (bif decide (szR s l < 0) then some (-1) else x) = some (szR (s + t) l) := by
  by_cases hs : (s : Int) ≤ l
  · have e1 : szR s l = l - s := by rw [szR, if_pos hs]
    have e2 : decide (szR s l < 0) = false := by rw [e1]; simp; omega
    rw [e2, cond_false, h hs]
    unfold szR
    congr 1
    split <;> split <;> omega
  · have e1 : szR s l = -1 := by rw [szR, if_neg hs]
    have e2 : decide (szR s l < 0) = true := by rw [e1]; rfl
    rw [e2, cond_true]
    unfold szR
    rw [if_neg (by omega)]

theorem makeT_ok {n b : Nat} (h1 : n ≤ 1048576) (h2 : b ≤ 1000) : makeT (n : Int) b = true := by
  unfold makeT
  rw [decide_eq_true_eq]
  have : n * b ≤ 1048576 * 1000 := Nat.mul_le_mul h1 h2
  refine ⟨by omega, ?_, by omega⟩
  have : ((n : Int)) * (b : Int) = ((n * b : Nat) : Int) := by simp
  omega

end Go.Pu
namespace Go.Tx
open Go.Pu

mutual
def Ty.m : Ty → Nat
  | .mk _ a => 3 + Ty.mL a
def Ty.mL : List Ty → Nat
  | [] => 0
  | x :: r => 1 + Ty.m x + Ty.mL r
end
mutual
def Ex.m : Ex → Nat
  | .mk _ _ _ t a => 5 + Ty.m t + Ex.mL a
def Ex.mL : List Ex → Nat
  | [] => 0
  | x :: r => 1 + Ex.m x + Ex.mL r
end
mutual
def Co.m : Co → Nat
  | .mk _ _ _ f t a e => 7 + Ty.m f + Ty.m t + Co.mL a + Co.mE e
def Co.mL : List Co → Nat
  | [] => 0
  | x :: r => 1 + Co.m x + Co.mL r
def Co.mE : List (ByteArray × Co) → Nat
  | [] => 0
  | x :: r => 1 + Co.mP x + Co.mE r
def Co.mP : ByteArray × Co → Nat
  | (_, c) => Co.m c
end
mutual
def Ty.sz : Ty → Nat
  | .mk _ a => Ty.szs a
def Ty.szs : List Ty → Nat
  | [] => 0
  | x :: r => 1 + Ty.sz x + Ty.szs r
end
mutual
def Ex.sz : Ex → Nat
  | .mk _ nm _ t a => nm.size + Ty.sz t + Ex.szs a
def Ex.szs : List Ex → Nat
  | [] => 0
  | x :: r => 1 + Ex.sz x + Ex.szs r
end
mutual
def Co.sz : Co → Nat
  | .mk _ nm _ f t a e => nm.size + Ty.sz f + Ty.sz t + Co.szs a + Co.szE e
def Co.szs : List Co → Nat
  | [] => 0
  | x :: r => 1 + Co.sz x + Co.szs r
def Co.szE : List (ByteArray × Co) → Nat
  | [] => 0
  | x :: r => 1 + Co.szP x + Co.szE r
def Co.szP : ByteArray × Co → Nat
  | (n, c) => n.size + Co.sz c
end
def Bi.sz (b : Bi) : Nat := b.1.size + Co.sz b.2
def Bi.m (b : Bi) : Nat := Co.m b.2
theorem Ty.szs_eq (l : List Ty) : Ty.szs l = szL Ty.sz l := by
  induction l with
  | nil => rfl
  | cons x r ih => simp only [Ty.szs, szL, ih]
theorem Ex.szs_eq (l : List Ex) : Ex.szs l = szL Ex.sz l := by
  induction l with
  | nil => rfl
  | cons x r ih => simp only [Ex.szs, szL, ih]
theorem Co.szs_eq (l : List Co) : Co.szs l = szL Co.sz l := by
  induction l with
  | nil => rfl
  | cons x r ih => simp only [Co.szs, szL, ih]
theorem Co.szE_eq (l : List Bi) : Co.szE l = szL Bi.sz l := by
  induction l with
  | nil => rfl
  | cons x r ih => obtain ⟨n, c⟩ := x; simp only [Co.szE, szL, ih, Co.szP, Bi.sz]
theorem Ty.mL_len (l : List Ty) : l.length ≤ Ty.mL l := by
  induction l with
  | nil => simp [Ty.mL]
  | cons x r ih => simp only [Ty.mL, List.length_cons]; omega
theorem Ty.mL_mem {l : List Ty} {x : Ty} (h : x ∈ l) : Ty.m x ≤ Ty.mL l := by
  induction l with
  | nil => cases h
  | cons y r ih =>
    simp only [Ty.mL]
    rcases List.mem_cons.1 h with rfl | h
    · omega
    · have := ih h; omega
theorem Ex.mL_len (l : List Ex) : l.length ≤ Ex.mL l := by
  induction l with
  | nil => simp [Ex.mL]
  | cons x r ih => simp only [Ex.mL, List.length_cons]; omega
theorem Ex.mL_mem {l : List Ex} {x : Ex} (h : x ∈ l) : Ex.m x ≤ Ex.mL l := by
  induction l with
  | nil => cases h
  | cons y r ih =>
    simp only [Ex.mL]
    rcases List.mem_cons.1 h with rfl | h
    · omega
    · have := ih h; omega
theorem Co.mL_len (l : List Co) : l.length ≤ Co.mL l := by
  induction l with
  | nil => simp [Co.mL]
  | cons x r ih => simp only [Co.mL, List.length_cons]; omega
theorem Co.mL_mem {l : List Co} {x : Co} (h : x ∈ l) : Co.m x ≤ Co.mL l := by
  induction l with
  | nil => cases h
  | cons y r ih =>
    simp only [Co.mL]
    rcases List.mem_cons.1 h with rfl | h
    · omega
    · have := ih h; omega
theorem Co.mE_len (l : List Bi) : l.length ≤ Co.mE l := by
  induction l with
  | nil => simp [Co.mE]
  | cons x r ih => simp only [Co.mE, List.length_cons]; omega
theorem Co.mE_mem {l : List Bi} {x : Bi} (h : x ∈ l) : Bi.m x ≤ Co.mE l := by
  induction l with
  | nil => cases h
  | cons y r ih =>
    simp only [Co.mE]
    rcases List.mem_cons.1 h with rfl | h
    · obtain ⟨n, c⟩ := x; simp only [Co.mP, Bi.m]; omega
    · have := ih h; omega

mutual
def Ty.beq : Ty → Ty → Bool
  | .mk k a, .mk k' b => (k == k') && Ty.beqs a b
def Ty.beqs : List Ty → List Ty → Bool
  | [], [] => true
  | x :: xs, y :: ys => Ty.beq x y && Ty.beqs xs ys
  | _, _ => false
end
mutual
def Ex.beq : Ex → Ex → Bool
  | .mk k nm n t a, .mk k' nm' n' t' b => (k == k') && (seqT nm nm' && ((n == n') && (Ty.beq t t' && Ex.beqs a b)))
def Ex.beqs : List Ex → List Ex → Bool
  | [], [] => true
  | x :: xs, y :: ys => Ex.beq x y && Ex.beqs xs ys
  | _, _ => false
end
mutual
def Co.beq : Co → Co → Bool
  | .mk k nm n f t a e, .mk k' nm' n' f' t' b g => (k == k') && (seqT nm nm' && ((n == n') && (Ty.beq f f' && (Ty.beq t t' && (Co.beqs a b && Co.beqE e g)))))
def Co.beqs : List Co → List Co → Bool
  | [], [] => true
  | x :: xs, y :: ys => Co.beq x y && Co.beqs xs ys
  | _, _ => false
def Co.beqE : List (ByteArray × Co) → List (ByteArray × Co) → Bool
  | [], [] => true
  | x :: xs, y :: ys => Co.beqP x y && Co.beqE xs ys
  | _, _ => false
def Co.beqP : ByteArray × Co → ByteArray × Co → Bool
  | (n, c), (m, d) => seqT n m && Co.beq c d
end
def Bi.beq (a b : Bi) : Bool := seqT a.1 b.1 && Co.beq a.2 b.2
theorem Ty.beqs_eq : ∀ (a b : List Ty), Ty.beqs a b = beqL Ty.beq a b
  | [], [] => by simp only [Ty.beqs, beqL]
  | x :: xs, y :: ys => by simp only [Ty.beqs, beqL, Ty.beqs_eq xs ys]
  | [], _ :: _ => by simp only [Ty.beqs, beqL]
  | _ :: _, [] => by simp only [Ty.beqs, beqL]
theorem Ex.beqs_eq : ∀ (a b : List Ex), Ex.beqs a b = beqL Ex.beq a b
  | [], [] => by simp only [Ex.beqs, beqL]
  | x :: xs, y :: ys => by simp only [Ex.beqs, beqL, Ex.beqs_eq xs ys]
  | [], _ :: _ => by simp only [Ex.beqs, beqL]
  | _ :: _, [] => by simp only [Ex.beqs, beqL]
theorem Co.beqs_eq : ∀ (a b : List Co), Co.beqs a b = beqL Co.beq a b
  | [], [] => by simp only [Co.beqs, beqL]
  | x :: xs, y :: ys => by simp only [Co.beqs, beqL, Co.beqs_eq xs ys]
  | [], _ :: _ => by simp only [Co.beqs, beqL]
  | _ :: _, [] => by simp only [Co.beqs, beqL]
theorem Co.beqE_eq : ∀ (a b : List Bi), Co.beqE a b = beqL Bi.beq a b
  | [], [] => by simp only [Co.beqE, beqL]
  | (n, c) :: xs, (m, d) :: ys => by simp only [Co.beqE, Co.beqP, beqL, Bi.beq, Co.beqE_eq xs ys]
  | [], _ :: _ => by simp only [Co.beqE, beqL]
  | _ :: _, [] => by simp only [Co.beqE, beqL]
theorem seqT_refl (s : ByteArray) : seqT s s = true := by simp [seqT]
mutual
theorem Ty.beq_refl : ∀ t : Ty, Ty.beq t t = true
  | .mk k a => by simp [Ty.beq, Ty.beqs_refl a]
theorem Ty.beqs_refl : ∀ l : List Ty, Ty.beqs l l = true
  | [] => by simp only [Ty.beqs]
  | x :: r => by simp [Ty.beqs, Ty.beq_refl x, Ty.beqs_refl r]
end
mutual
theorem Ex.beq_refl : ∀ t : Ex, Ex.beq t t = true
  | .mk k nm n t a => by simp [Ex.beq, seqT_refl, Ty.beq_refl, Ex.beqs_refl a]
theorem Ex.beqs_refl : ∀ l : List Ex, Ex.beqs l l = true
  | [] => by simp only [Ex.beqs]
  | x :: r => by simp [Ex.beqs, Ex.beq_refl x, Ex.beqs_refl r]
end
mutual
theorem Co.beq_refl : ∀ t : Co, Co.beq t t = true
  | .mk k nm n f t a e => by simp [Co.beq, seqT_refl, Ty.beq_refl, Co.beqs_refl a, Co.beqE_refl e]
theorem Co.beqs_refl : ∀ l : List Co, Co.beqs l l = true
  | [] => by simp only [Co.beqs]
  | x :: r => by simp [Co.beqs, Co.beq_refl x, Co.beqs_refl r]
theorem Co.beqE_refl : ∀ l : List (ByteArray × Co), Co.beqE l l = true
  | [] => by simp only [Co.beqE]
  | x :: r => by simp [Co.beqE, Co.beqP_refl x, Co.beqE_refl r]
theorem Co.beqP_refl : ∀ x : ByteArray × Co, Co.beqP x x = true
  | (n, c) => by simp [Co.beqP, seqT_refl, Co.beq_refl c]
end

-- no slice or string is longer than Go's are
mutual
def Ty.ok : Ty → Prop
  | .mk _ a => a.length ≤ 9223372036854775807 ∧ Ty.oks a
def Ty.oks : List Ty → Prop
  | [] => True
  | x :: r => Ty.ok x ∧ Ty.oks r
end
mutual
def Ex.ok : Ex → Prop
  | .mk _ nm _ t a => nm.size ≤ 9223372036854775807 ∧ Ty.ok t ∧ a.length ≤ 9223372036854775807 ∧ Ex.oks a
def Ex.oks : List Ex → Prop
  | [] => True
  | x :: r => Ex.ok x ∧ Ex.oks r
end
mutual
def Co.ok : Co → Prop
  | .mk _ nm _ f t a e => nm.size ≤ 9223372036854775807 ∧ Ty.ok f ∧ Ty.ok t ∧ a.length ≤ 9223372036854775807 ∧ Co.oks a ∧ e.length ≤ 9223372036854775807 ∧ Co.okE e
def Co.oks : List Co → Prop
  | [] => True
  | x :: r => Co.ok x ∧ Co.oks r
def Co.okE : List (ByteArray × Co) → Prop
  | [] => True
  | x :: r => Co.okP x ∧ Co.okE r
def Co.okP : ByteArray × Co → Prop
  | (n, c) => n.size ≤ 9223372036854775807 ∧ Co.ok c
end
def Bi.ok (b : Bi) : Prop := b.1.size ≤ 9223372036854775807 ∧ Co.ok b.2
theorem Ty.oks_iff {l : List Ty} : Ty.oks l ↔ ∀ x ∈ l, Ty.ok x := by
  induction l with
  | nil => simp [Ty.oks]
  | cons x r ih => simp [Ty.oks, ih]
theorem Ex.oks_iff {l : List Ex} : Ex.oks l ↔ ∀ x ∈ l, Ex.ok x := by
  induction l with
  | nil => simp [Ex.oks]
  | cons x r ih => simp [Ex.oks, ih]
theorem Co.oks_iff {l : List Co} : Co.oks l ↔ ∀ x ∈ l, Co.ok x := by
  induction l with
  | nil => simp [Co.oks]
  | cons x r ih => simp [Co.oks, ih]
theorem Co.okE_iff {l : List Bi} : Co.okE l ↔ ∀ x ∈ l, Bi.ok x := by
  induction l with
  | nil => simp [Co.okE]
  | cons x r ih => obtain ⟨n, c⟩ := x; simp [Co.okE, Co.okP, Bi.ok, ih]

-- what is not too large is not too long
mutual
theorem Ty.ok_of : ∀ {t : Ty}, t.sz ≤ 9223372036854775807 → t.ok
  | .mk k a, h => by
    simp only [Ty.sz] at h
    have := szL_len Ty.sz a
    rw [← Ty.szs_eq] at this
    exact ⟨by omega, Ty.oks_of h⟩
theorem Ty.oks_of : ∀ {l : List Ty}, Ty.szs l ≤ 9223372036854775807 → Ty.oks l
  | [], _ => trivial
  | x :: r, h => by
    simp only [Ty.szs] at h
    exact ⟨Ty.ok_of (by omega), Ty.oks_of (by omega)⟩
end
mutual
theorem Ex.ok_of : ∀ {t : Ex}, t.sz ≤ 9223372036854775807 → t.ok
  | .mk k nm n t a, h => by
    simp only [Ex.sz] at h
    have := szL_len Ex.sz a
    rw [← Ex.szs_eq] at this
    exact ⟨by omega, Ty.ok_of (by omega), by omega, Ex.oks_of (by omega)⟩
theorem Ex.oks_of : ∀ {l : List Ex}, Ex.szs l ≤ 9223372036854775807 → Ex.oks l
  | [], _ => trivial
  | x :: r, h => by
    simp only [Ex.szs] at h
    exact ⟨Ex.ok_of (by omega), Ex.oks_of (by omega)⟩
end
mutual
theorem Co.ok_of : ∀ {t : Co}, t.sz ≤ 9223372036854775807 → t.ok
  | .mk k nm n f t a e, h => by
    simp only [Co.sz] at h
    have h1 := szL_len Co.sz a
    rw [← Co.szs_eq] at h1
    have h2 := szL_len Bi.sz e
    rw [← Co.szE_eq] at h2
    exact ⟨by omega, Ty.ok_of (by omega), Ty.ok_of (by omega), by omega, Co.oks_of (by omega), by omega, Co.okE_of (by omega)⟩
theorem Co.oks_of : ∀ {l : List Co}, Co.szs l ≤ 9223372036854775807 → Co.oks l
  | [], _ => trivial
  | x :: r, h => by
    simp only [Co.szs] at h
    exact ⟨Co.ok_of (by omega), Co.oks_of (by omega)⟩
theorem Co.okE_of : ∀ {l : List (ByteArray × Co)}, Co.szE l ≤ 9223372036854775807 → Co.okE l
  | [], _ => trivial
  | x :: r, h => by
    simp only [Co.szE] at h
    exact ⟨Co.okP_of (by omega), Co.okE_of (by omega)⟩
theorem Co.okP_of : ∀ {l : ByteArray × Co}, Co.szP l ≤ 9223372036854775807 → Co.okP l
  | (n, c), h => by
    simp only [Co.szP] at h
    exact ⟨by omega, Co.ok_of (by omega)⟩
end
end Go.Tx
namespace Go.Tx
def Tg.ok (t : Tg) : Prop := t.name.size ≤ 9223372036854775807 ∧ t.ty.ok
def Ed.ok (t : Ed) : Prop := t.ex.ok ∧ t.path.length ≤ 9223372036854775807
def Ac.ok (t : Ac) : Prop := t.name.size ≤ 9223372036854775807 ∧ t.ty.ok
def Pl.ok (t : Pl) : Prop := t.ctx.length ≤ 9223372036854775807 ∧ (∀ x ∈ t.ctx, Tg.ok x) ∧ t.ty.ok
def Hi.ok (t : Hi) : Prop := t.path.length ≤ 9223372036854775807 ∧ t.place.ok
def Hc.ok (t : Hc) : Prop := t.ctx.length ≤ 9223372036854775807 ∧ ∀ x ∈ t.ctx, Tg.ok x
def Cl.ok (t : Cl) : Prop := t.env.length ≤ 9223372036854775807 ∧ ∀ x ∈ t.env, Bi.ok x
def Hy.ok (t : Hy) : Prop := t.past.length ≤ 9223372036854775807 ∧ (∀ x ∈ t.past, Ed.ok x) ∧ t.now.ok ∧ t.next.length ≤ 9223372036854775807 ∧ ∀ x ∈ t.next, Ed.ok x
def Rs.ok (t : Rs) : Prop := t.value.ok
end Go.Tx
namespace Go.Ax
open Go.ChangeShapes Go.WideShapes Go.ChangeAt Go.RowKit
theorem RpC.seg {M : Mem} {ps qs : List PV} {cs : List Value} {o s n : Nat} (h : RpC M ps ((cs.drop o).take s)) (k : RpC M qs (cs.drop n)) (e : o + s = n) : RpC M (ps ++ qs) (cs.drop o) := by
  subst e
  have := h.append k
  rw [← List.drop_drop, List.take_append_drop] at this
  exact this
theorem RpC.last {M : Mem} {cs : List Value} {n : Nat} (h : cs.length = n) : RpC M [] (cs.drop n) := by
  rw [List.drop_eq_nil_of_le (by omega)]
  exact .nil _
theorem RpC.fin {M : Mem} {ps : List PV} {cs : List Value} {o s n : Nat} (h : RpC M ps ((cs.drop o).take s)) (e : o + s = n) (hl : cs.length = n) : RpC M ps (cs.drop o) := by
  rw [List.take_of_length_le (by simp; omega)] at h
  exact h
variable {H : Type} {enc : TypeId × Value → H} {P : Program} {w : World} {spare : Nat → Bool} {held : Bool} {tab : Tab}
theorem rd_size (hT : TabOK P tab) {t : TypeId} {i : TI} (h : tab t = some i) : P.cellsOf t = i.size := by
  obtain ⟨inf, z, h1, h2, _⟩ := (hT t i h).info
  unfold Program.cellsOf
  rw [h1]
  simp [h2]
theorem rd_struct (hT : TabOK P tab) {t : TypeId} {sz b : Nat} {fs : List (Nat × TypeId)} {zs : List PV} {fuel : Nat} {cs : List Value} {x : DataW H × List MemPlace} (h : tab t = some ⟨sz, b, .struct fs, zs⟩) (hd : DataW.trod enc P w 0 spare held fuel t cs = some x) :
    ∃ n, fuel = n + 1 ∧ cs.length = sz ∧ ∀ p ∈ fs, ∃ y, DataW.trod enc P w 0 spare held n p.2 ((cs.drop p.1).take (P.cellsOf p.2)) = some y := by
  obtain ⟨d, h1, h2⟩ := (hT t _ h).und
  cases d <;> try exact h2.elim
  obtain ⟨ys, n, rfl, _, hl, hn, hf⟩ := DataW.trod_struct h1 hd
  refine ⟨n, rfl, hl.trans (rd_size hT h), fun p hp => ?_⟩
  simp only [tdOK] at h2
  rw [h2.1] at hp
  obtain ⟨f, hf1, rfl⟩ := List.mem_map.1 hp
  obtain ⟨i, hi, rfl⟩ := List.getElem_of_mem hf1
  have hi2 : i < ys.length := by rw [hn]; simpa using hi
  have := hf i _ (Array.getElem?_eq_getElem (by simpa using hi))
  rw [List.getElem?_eq_getElem hi2] at this
  exact ⟨_, this⟩
theorem rd_field (hT : TabOK P tab) {fs : List (Nat × TypeId)} {n : Nat} {cs : List Value} (hf : ∀ p ∈ fs, ∃ y : DataW H × List MemPlace, DataW.trod enc P w 0 spare held n p.2 ((cs.drop p.1).take (P.cellsOf p.2)) = some y) {ft : TypeId} {i : TI} (h : tab ft = some i) (o : Nat) (hp : (o, ft) ∈ fs) :
    ∃ y, DataW.trod enc P w 0 spare held n ft ((cs.drop o).take i.size) = some y := by
  have := hf _ hp
  rw [rd_size hT h] at this
  exact this
theorem rd_int (hT : TabOK P tab) {t : TypeId} {sz b : Nat} {k : IntKind} {zs : List PV} {fuel : Nat} {cs : List Value} {x : DataW H × List MemPlace} (h : tab t = some ⟨sz, b, .int k, zs⟩) (hd : DataW.trod enc P w 0 spare held fuel t cs = some x) :
    ∃ n, cs = [.int k n] ∧ RpC (memOf w) [.lit (.int k n)] cs := by
  obtain ⟨d, h1, h2⟩ := (hT t _ h).und
  cases d <;> try exact h2.elim
  simp only [tdOK] at h2
  subst h2
  obtain ⟨n, rfl, _⟩ := DataW.trod_int h1 hd
  exact ⟨n, rfl, .cons rfl (.lit _ rfl) (.nil _)⟩
theorem rd_bool (hT : TabOK P tab) {t : TypeId} {sz b : Nat} {zs : List PV} {fuel : Nat} {cs : List Value} {x : DataW H × List MemPlace} (h : tab t = some ⟨sz, b, .bool, zs⟩) (hd : DataW.trod enc P w 0 spare held fuel t cs = some x) :
    ∃ n, cs = [.bool n] ∧ RpC (memOf w) [.lit (.bool n)] cs := by
  obtain ⟨d, h1, h2⟩ := (hT t _ h).und
  cases d <;> try exact h2.elim
  obtain ⟨n, rfl, _⟩ := DataW.trod_bool h1 hd
  exact ⟨n, rfl, .cons rfl (.lit _ rfl) (.nil _)⟩
theorem rd_str (hT : TabOK P tab) {t : TypeId} {sz b : Nat} {zs : List PV} {fuel : Nat} {cs : List Value} {x : DataW H × List MemPlace} (h : tab t = some ⟨sz, b, .str, zs⟩) (hd : DataW.trod enc P w 0 spare held fuel t cs = some x) :
    ∃ s : ByteArray, s.size ≤ 9223372036854775807 ∧ cs = [.string s] ∧ RpC (memOf w) [.lit (.string s)] cs := by
  obtain ⟨d, h1, h2⟩ := (hT t _ h).und
  cases d <;> try exact h2.elim
  obtain ⟨s, rfl, _, hz⟩ := DataW.trod_string h1 hd
  exact ⟨s, hz, rfl, .cons rfl (.lit _ rfl) (.nil _)⟩
theorem rd_slice (hT : TabOK P tab) {T : Type} (av : T → PV) (good : T → Prop) {t e : TypeId} {sz sz' b : Nat} {zs : List PV} {ie : TI} {fuel : Nat} {cs : List Value} {x : DataW H × List MemPlace} (h : tab t = some ⟨sz', b, .slice e, zs⟩) (he : tab e = some ie) (hsz : 0 < sz) (hse : ie.size = sz) (hav : ∀ τ, (av τ).cells.length = sz)
    (hd : DataW.trod enc P w 0 spare held fuel t cs = some x)
    (hel : ∀ n cs x, fuel = n + 1 → DataW.trod enc P w 0 spare held n e cs = some x → ∃ τ, good τ ∧ RpC (memOf w) (av τ).cells cs) :
    ∃ l : List T, l.length ≤ 9223372036854775807 ∧ (∀ τ ∈ l, good τ) ∧ RpC (memOf w) [.sl sz (l.map av)] cs := by
  obtain ⟨d, h1, h2⟩ := (hT t _ h).und
  cases d <;> try exact h2.elim
  simp only [tdOK] at h2
  subst h2
  obtain ⟨l, s, rfl, g1, g2, g3, g4⟩ := read_slice av good hsz hav h1 ((rd_size hT he).trans hse) hd hel
  exact ⟨l, g2, g3, .cons g1 g4 (.nil _)⟩
/-- What is handed in as a struct. -/
theorem arg_obj (c : Nat) (x : Go.Tx.Dd c) {cs : List Value} {M : Mem} {ρ : Nat → Option Nat} (h : RpC M (Go.Tx.pvd c x).cells cs) : RpA M ρ (.pv (Go.Tx.TV.pv Go.Tx.UU (.agg (Go.Tx.UU.enc c x)))) (.agg cs.toArray) := by
  have : Go.Tx.TV.pv Go.Tx.UU (.agg (Go.Tx.UU.enc c x)) = .agg (Go.Tx.pvd c x).cells := by
    show PV.agg (Go.Tx.TV.pvL Go.Tx.UU (Go.Tx.encd c x)) = _
    rw [Go.Tx.UU_enc]
  rw [this]
  exact .pv _ _ h.agg
theorem arg_one {x : PV} {v : Value} {M : Mem} {ρ : Nat → Option Nat} (h : RpC M [x] [v]) : RpA M ρ (.pv x) v := .pv _ _ (h.2 0 x v rfl rfl).2
theorem arg_struct (hT : TabOK P tab) {r : Reach} {base : Nat} {v : Value} {d : DataW H} {p : List MemPlace} {t : TypeId} {sz b : Nat} {fs : List (Nat × TypeId)} {zs : List PV} (h : tab t = some ⟨sz, b, .struct fs, zs⟩) (hv : Value.okWide P w r base t v) (hd : DataW.Trod enc P w 0 (fun _ => true) true t v d p) :
    ∃ (cs : List Value) (fuel : Nat), v = .agg cs.toArray ∧ DataW.trod enc P w 0 (fun _ => true) true fuel t cs = some (d, p) := by
  obtain ⟨D, h1, h2⟩ := (hT t _ h).und
  cases D <;> try exact h2.elim
  obtain ⟨cs, rfl, _⟩ := okWide_struct h1 hv
  obtain ⟨fuel, hf⟩ := hd
  exact ⟨cs.toList, fuel, rfl, hf⟩
theorem arg_slice (hT : TabOK P tab) {r : Reach} {base : Nat} {v : Value} {d : DataW H} {p : List MemPlace} {t e : TypeId} {sz b : Nat} {zs : List PV} (h : tab t = some ⟨sz, b, .slice e, zs⟩) (hv : Value.okWide P w r base t v) (hd : DataW.Trod enc P w 0 (fun _ => true) true t v d p) :
    ∃ (fuel : Nat), DataW.trod enc P w 0 (fun _ => true) true fuel t [v] = some (d, p) := by
  obtain ⟨D, h1, h2⟩ := (hT t _ h).und
  cases D <;> try exact h2.elim
  obtain ⟨a, l, c, rfl⟩ := okWide_slice h1 hv
  obtain ⟨fuel, hf⟩ := hd
  exact ⟨fuel, hf⟩
end Go.Ax
