/- Plain laws of loops over lists, of sums that do not overflow, of equality, copies and sizes. -/
import Derived.Test.YtbbncbojkkackaaTxU
set_option linter.unusedVariables false
set_option linter.unusedSimpArgs false
namespace Go.Pu
open Go.Tx

theorem w64_id {x : Int} (h1 : -9223372036854775808 ≤ x) (h2 : x ≤ 9223372036854775807) : w64 x = x := by
  simp only [w64, IntKind.wrap, IntKind.bits, IntKind.signed, Bool.true_and]
  split <;> simp_all <;> omega

theorem nthT_nat {α : Type} (xs : List α) (k : Nat) : nthT xs (k : Int) = xs[k]? := by
  unfold nthT
  rw [if_pos (by omega)]
  simp

/-- A list, walked through. -/
def foldK {α S R : Type} (body : α → S → (S → Option R) → Option R) (fin : S → Option R) : List α → S → Option R
  | [], s => fin s
  | x :: r, s => body x s (foldK body fin r)

theorem loop_ok {α S R : Type} (xs : List α) (hx : xs.length ≤ 9223372036854775807) (L : Nat → Int → S → Option R) (body : α → S → (S → Option R) → Option R) (fin : Nat → S → Option R)
    (h : ∀ m (k : Nat) s, k ≤ xs.length → L (m + 1) k s = bif decide ((k : Int) < (xs.length : Int)) then (nthT xs k).bind fun x => body x s (fun s' => L m (w64 ((k : Int) + 1)) s') else fin m s) :
    ∀ m s, xs.length < m → L m 0 s = foldK body (fin (m - xs.length - 1)) xs s := by
  have main : ∀ (d k m : Nat) s, k + d = xs.length → d < m → L m k s = foldK body (fin (m - d - 1)) (xs.drop k) s := by
    intro d
    induction d with
    | zero =>
      intro k m s hk hm
      obtain ⟨m, rfl⟩ : ∃ q, m = q + 1 := ⟨m - 1, by omega⟩
      rw [h m k s (by omega)]
      have : decide ((k : Int) < (xs.length : Int)) = false := by simp; omega
      rw [this, List.drop_eq_nil_of_le (by omega)]
      simp [foldK]
    | succ d ih =>
      intro k m s hk hm
      obtain ⟨m, rfl⟩ : ∃ q, m = q + 1 := ⟨m - 1, by omega⟩
      rw [h m k s (by omega)]
      have hlt : k < xs.length := by omega
      have : decide ((k : Int) < (xs.length : Int)) = true := by simp; omega
      rw [this, cond_true, nthT_nat, List.getElem?_eq_getElem hlt, Option.bind_some, List.drop_eq_getElem_cons hlt]
      have e : w64 ((k : Int) + 1) = ((k + 1 : Nat) : Int) := by rw [w64_id (by omega) (by omega)]; rfl
      simp only [foldK, e]
      congr 1
      funext s'
      rw [ih (k + 1) m s' (by omega) (by omega), show m + 1 - (d + 1) - 1 = m - d - 1 by omega]
  intro m s hm
  have := main xs.length 0 m s (by omega) hm
  simpa using this

theorem foldK_congr {α S R : Type} {body body' : α → S → (S → Option R) → Option R} {fin : S → Option R} : ∀ {xs : List α} {s : S}, (∀ x ∈ xs, ∀ s K, body x s K = body' x s K) → foldK body fin xs s = foldK body' fin xs s
  | [], s, _ => rfl
  | x :: r, s, h => by
    simp only [foldK]
    rw [h x (by simp)]
    congr 1
    funext s'
    exact foldK_congr fun y hy => h y (by simp [hy])

theorem foldK_pure {α S R : Type} (f : S → α → S) {fin : S → Option R} : ∀ {xs : List α} {s : S}, foldK (fun x s K => K (f s x)) fin xs s = fin (xs.foldl f s)
  | [], s => rfl
  | x :: r, s => by simp only [foldK, List.foldl_cons]; exact foldK_pure f

/-- Equality of lists by elements. -/
def beqL {α : Type} (eq : α → α → Bool) : List α → List α → Bool
  | [], [] => true
  | x :: xs, y :: ys => eq x y && beqL eq xs ys
  | _, _ => false

theorem beqL_refl {α : Type} {eq : α → α → Bool} {xs : List α} (h : ∀ x ∈ xs, eq x x = true) : beqL eq xs xs = true := by
  induction xs with
  | nil => rfl
  | cons x r ih => simp only [beqL, h x (by simp), ih fun y hy => h y (by simp [hy]), Bool.and_true]

theorem beqL_len {α : Type} {eq : α → α → Bool} : ∀ {xs ys : List α}, beqL eq xs ys = true → xs.length = ys.length
  | [], [], _ => rfl
  | x :: xs, y :: ys, h => by
    simp only [beqL, Bool.and_eq_true] at h
    simp [beqL_len h.2]
  | [], _ :: _, h => by cases h
  | _ :: _, [], h => by cases h

/-- The loop of an equality of lists. -/
theorem eq_loop {α : Type} (eq : α → α → Bool) (g : α → α → Option Bool) (L : Nat → Int → Option Bool) (a b : List α) (ha : a.length ≤ 9223372036854775807) (hab : a.length = b.length)
    (hg : ∀ x ∈ a, ∀ y, g x y = some (eq x y))
    (h : ∀ m (k : Nat), k ≤ a.length → L (m + 1) k = bif decide ((k : Int) < (a.length : Int)) then (nthT a k).bind fun x => (nthT b k).bind fun y => (g x y).bind fun v => bif !v then some false else L m (w64 ((k : Int) + 1)) else some true) :
    ∀ m, a.length < m → L m 0 = some (beqL eq a b) := by
  have main : ∀ (d k m : Nat), k + d = a.length → d < m → L m k = some (beqL eq (a.drop k) (b.drop k)) := by
    intro d
    induction d with
    | zero =>
      intro k m hk hm
      obtain ⟨m, rfl⟩ : ∃ q, m = q + 1 := ⟨m - 1, by omega⟩
      rw [h m k (by omega)]
      have : decide ((k : Int) < (a.length : Int)) = false := by simp; omega
      rw [this, List.drop_eq_nil_of_le (by omega), List.drop_eq_nil_of_le (by omega)]
      rfl
    | succ d ih =>
      intro k m hk hm
      obtain ⟨m, rfl⟩ : ∃ q, m = q + 1 := ⟨m - 1, by omega⟩
      rw [h m k (by omega)]
      have hlt : k < a.length := by omega
      have hlt2 : k < b.length := by omega
      have : decide ((k : Int) < (a.length : Int)) = true := by simp; omega
      have e : w64 ((k : Int) + 1) = ((k + 1 : Nat) : Int) := by rw [w64_id (by omega) (by omega)]; rfl
      rw [this, cond_true, nthT_nat, nthT_nat, List.getElem?_eq_getElem hlt, List.getElem?_eq_getElem hlt2, Option.bind_some, Option.bind_some, hg _ (List.getElem_mem hlt), Option.bind_some, e, ih (k + 1) m (by omega) (by omega),
        List.drop_eq_getElem_cons hlt, List.drop_eq_getElem_cons hlt2]
      simp only [beqL]
      cases eq a[k] b[k] <;> rfl
  intro m hm
  have := main a.length 0 m (by omega) hm
  simpa using this

theorem eq_list {α : Type} (eq : α → α → Bool) {a b : List α} {x : Option Bool} (h : a.length = b.length → x = some (beqL eq a b)) :
    (bif ((a.length : Int) != (b.length : Int)) then some false else x) = some (beqL eq a b) := by
  by_cases hl : a.length = b.length
  · rw [h hl]
    have : ((a.length : Int) != (b.length : Int)) = false := by simp [hl]
    rw [this]; rfl
  · have : ((a.length : Int) != (b.length : Int)) = true := by simp; omega
    rw [this]
    cases hb : beqL eq a b
    · rfl
    · exact absurd (beqL_len hb) hl

/-- The loop of a copy into a slice that was made. -/
theorem to_loop {α : Type} (g : α → Option α) (L : Nat → Int → List α → Option (List α)) (a : List α) (ha : a.length ≤ 9223372036854775807) (hg : ∀ x ∈ a, g x = some x)
    (h : ∀ m (k : Nat) b, k ≤ a.length → L (m + 1) k b = bif decide ((k : Int) < (a.length : Int)) then (nthT a k).bind fun x => (g x).bind fun y => (if inT (k : Int) (a.length : Int).toNat then some (k : Int) else none).bind fun j =>
      bif inT j b.length then L m (w64 ((k : Int) + 1)) (b.set j.toNat y) else none else bif Nat.beq b.length (a.length : Int).toNat then some b else none) :
    ∀ m b, b.length = a.length → a.length < m → L m 0 b = some a := by
  have main : ∀ (d k m : Nat) b, k + d = a.length → d < m → b.length = a.length → L m k b = some (b.take k ++ a.drop k) := by
    intro d
    induction d with
    | zero =>
      intro k m b hk hm hb
      obtain ⟨m, rfl⟩ : ∃ q, m = q + 1 := ⟨m - 1, by omega⟩
      rw [h m k b (by omega)]
      have : decide ((k : Int) < (a.length : Int)) = false := by simp; omega
      have h2 : Nat.beq b.length (a.length : Int).toNat = true := by rw [Nat.beq_eq]; simp [hb]
      rw [this, cond_false, h2, cond_true, List.drop_eq_nil_of_le (by omega), List.take_of_length_le (by omega), List.append_nil]
    | succ d ih =>
      intro k m b hk hm hb
      obtain ⟨m, rfl⟩ : ∃ q, m = q + 1 := ⟨m - 1, by omega⟩
      rw [h m k b (by omega)]
      have hlt : k < a.length := by omega
      have : decide ((k : Int) < (a.length : Int)) = true := by simp; omega
      have e : w64 ((k : Int) + 1) = ((k + 1 : Nat) : Int) := by rw [w64_id (by omega) (by omega)]; rfl
      have i1 : inT (k : Int) (a.length : Int).toNat = true := by unfold inT; simp; omega
      have i2 : inT (k : Int) b.length = true := by unfold inT; simp; omega
      rw [this, cond_true, nthT_nat, List.getElem?_eq_getElem hlt, Option.bind_some, hg _ (List.getElem_mem hlt), Option.bind_some, i1, if_pos rfl, Option.bind_some, i2, cond_true, e,
        ih (k + 1) m _ (by omega) (by omega) (by simp [hb])]
      simp only [Int.toNat_natCast]
      congr 1
      rw [List.drop_eq_getElem_cons hlt, List.take_add_one, List.getElem?_set_self (by omega)]
      rw [List.take_set_of_le (Nat.le_refl _)]
      simp
  intro m b hb hm
  have := main a.length 0 m b (by omega) hm hb
  simpa using this

/-- What is left of `left` behind something of this size; -1 if it was too much. -/
def szR (s : Nat) (left : Int) : Int := if (s : Int) ≤ left then left - s else -1

/-- The sizes of elements, with one for each. -/
def szL {α : Type} (sz : α → Nat) : List α → Nat
  | [] => 0
  | x :: r => 1 + sz x + szL sz r
def szE {α : Type} (sz : α → Nat) : List α → Nat
  | [] => 0
  | x :: r => sz x + szE sz r
theorem szL_eq {α : Type} (sz : α → Nat) (xs : List α) : szL sz xs = xs.length + szE sz xs := by
  induction xs with
  | nil => rfl
  | cons x r ih => simp only [szL, szE, List.length_cons, ih]; omega
theorem szL_len {α : Type} (sz : α → Nat) (xs : List α) : xs.length ≤ szL sz xs := by rw [szL_eq]; omega
theorem szL_mem {α : Type} {sz : α → Nat} {xs : List α} {x : α} (h : x ∈ xs) : sz x + 1 ≤ szL sz xs := by
  induction xs with
  | nil => cases h
  | cons y r ih =>
    simp only [szL]
    rcases List.mem_cons.1 h with rfl | h
    · omega
    · have := ih h; omega

theorem szR_neg {s : Nat} {l : Int} (h0 : 0 ≤ l) : (decide (szR s l < 0) = true ↔ ¬ (s : Int) ≤ l) := by
  unfold szR
  split <;> simp <;> omega

/-- The loop of a size. -/
theorem sz_loop {α : Type} (sz : α → Nat) (g : α → Int → Option Int) (L : Nat → Int → Int → Option Int) (a : List α) (ha : a.length ≤ 9223372036854775807)
    (hg : ∀ x ∈ a, ∀ l : Int, 0 ≤ l → l ≤ 1048576 → g x l = some (szR (sz x) l))
    (h : ∀ m (k : Nat) (l : Int), k ≤ a.length → L (m + 1) k l = bif decide ((k : Int) < (a.length : Int)) then (nthT a k).bind fun x => (g x l).bind fun v => bif decide (v < 0) then some (-1) else L m (w64 ((k : Int) + 1)) v else some l) :
    ∀ m (l : Int), 0 ≤ l → l ≤ 1048576 → a.length < m → L m 0 l = some (szR (szE sz a) l) := by
  have main : ∀ (d k m : Nat) (l : Int), 0 ≤ l → l ≤ 1048576 → k + d = a.length → d < m → L m k l = some (szR (szE sz (a.drop k)) l) := by
    intro d
    induction d with
    | zero =>
      intro k m l h0 h1 hk hm
      obtain ⟨m, rfl⟩ : ∃ q, m = q + 1 := ⟨m - 1, by omega⟩
      rw [h m k l (by omega)]
      have : decide ((k : Int) < (a.length : Int)) = false := by simp; omega
      rw [this, List.drop_eq_nil_of_le (by omega)]
      simp [szR, szE, h0]
    | succ d ih =>
      intro k m l h0 h1 hk hm
      obtain ⟨m, rfl⟩ : ∃ q, m = q + 1 := ⟨m - 1, by omega⟩
      rw [h m k l (by omega)]
      have hlt : k < a.length := by omega
      have : decide ((k : Int) < (a.length : Int)) = true := by simp; omega
      have e : w64 ((k : Int) + 1) = ((k + 1 : Nat) : Int) := by rw [w64_id (by omega) (by omega)]; rfl
      rw [this, cond_true, nthT_nat, List.getElem?_eq_getElem hlt, Option.bind_some, hg _ (List.getElem_mem hlt) l h0 h1, Option.bind_some, e, List.drop_eq_getElem_cons hlt]
      simp only [szE]
      by_cases hs : (sz a[k] : Int) ≤ l
      · have e1 : szR (sz a[k]) l = l - sz a[k] := by rw [szR, if_pos hs]
        have e2 : decide (szR (sz a[k]) l < 0) = false := by rw [e1]; simp; omega
        rw [e2, cond_false, e1, ih (k + 1) m _ (by omega) (by omega) (by omega) (by omega)]
        unfold szR
        congr 1
        split <;> split <;> omega
      · have e1 : szR (sz a[k]) l = -1 := by rw [szR, if_neg hs]
        have e2 : decide (szR (sz a[k]) l < 0) = true := by rw [e1]; rfl
        rw [e2, cond_true]
        congr 1
        unfold szR
        rw [if_neg (by omega)]
  intro m l h0 h1 hm
  have := main a.length 0 m l h0 h1 (by omega) hm
  simpa using this

theorem szR_len {α : Type} (sz : α → Nat) (a : List α) (ha : a.length ≤ 9223372036854775807) {l : Int} (h0 : 0 ≤ l) (h1 : l ≤ 1048576) {x : Option Int} (h : (a.length : Int) ≤ l → x = some (szR (szE sz a) (l - a.length))) :
    (bif (decide ((w64 (l - (a.length : Int))) < 0)) then some (-1) else x) = some (szR (szL sz a) l) := by
  rw [w64_id (by omega) (by omega), szL_eq]
  by_cases hl : (a.length : Int) ≤ l
  · have : decide (l - (a.length : Int) < 0) = false := by simp; omega
    rw [this, cond_false, h hl]
    unfold szR
    congr 1
    split <;> split <;> omega
  · have : decide (l - (a.length : Int) < 0) = true := by simp; omega
    rw [this, cond_true]
    unfold szR
    rw [if_neg (by omega)]

/-- One size behind another. -/
theorem szR_step {s t : Nat} {l : Int} {x : Option Int} (h0 : 0 ≤ l) (h : (s : Int) ≤ l → x = some (szR t (l - s))) :
    (bif decide (szR s l < 0) then some (-1) else x) = some (szR (s + t) l) := by
  by_cases hs : (s : Int) ≤ l
  · have e1 : szR s l = l - s := by rw [szR, if_pos hs]
    have e2 : decide (szR s l < 0) = false := by rw [e1]; simp; omega
    rw [e2, cond_false, h hs]
    unfold szR
    congr 1
    split <;> split <;> omega
  · have e1 : szR s l = -1 := by rw [szR, if_neg hs]
    have e2 : decide (szR s l < 0) = true := by rw [e1]; rfl
    rw [e2, cond_true]
    unfold szR
    rw [if_neg (by omega)]

theorem makeT_ok {n b : Nat} (h1 : n ≤ 1048576) (h2 : b ≤ 1000) : makeT (n : Int) b = true := by
  unfold makeT
  rw [decide_eq_true_eq]
  have : n * b ≤ 1048576 * 1000 := Nat.mul_le_mul h1 h2
  refine ⟨by omega, ?_, by omega⟩
  have : ((n : Int)) * (b : Int) = ((n * b : Nat) : Int) := by simp
  omega

end Go.Pu
