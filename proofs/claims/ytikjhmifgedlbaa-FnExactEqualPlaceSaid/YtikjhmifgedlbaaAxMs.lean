/- The abstract layer: a slice that is made and filled element by element. -/
import Derived.Test.YtikjhmifgedlbaaAxBr
namespace Go.Ax

def msC (X : List PV) (z : List AV) (i : Nat) : List AV := ((X.take i).flatMap fun e => e.cells.map .pv) ++ (List.replicate (X.length - i) z).flatten

section
variable {X : List PV} {z : List AV} {sz : Nat}

theorem msC_zero : msC X z 0 = (List.replicate X.length z).flatten := by simp [msC]

theorem flat_len {sz : Nat} : ∀ {l : List PV}, (∀ e ∈ l, e.cells.length = sz) → (l.flatMap fun e => e.cells.map AV.pv).length = l.length * sz
  | [], _ => by simp
  | e :: r, h => by
    rw [List.flatMap_cons, List.length_append, flat_len fun x hx => h x (by simp [hx]), List.length_map, h e (by simp), List.length_cons, Nat.add_mul]
    omega
theorem rep_len {n : Nat} (hz : z.length = sz) : (List.replicate n z).flatten.length = n * sz := by
  induction n with
  | zero => simp
  | succ n ih => rw [List.replicate_succ, List.flatten_cons, List.length_append, ih, hz, Nat.add_mul]; omega

theorem msC_len (hz : z.length = sz) (hX : ∀ e ∈ X, e.cells.length = sz) {i : Nat} (hi : i ≤ X.length) : (msC X z i).length = X.length * sz := by
  rw [msC, List.length_append, flat_len (fun e he => hX e (List.mem_of_mem_take he)), rep_len hz, List.length_take, ← Nat.add_mul]
  congr 1; omega

theorem msC_step (hz : z.length = sz) (hX : ∀ e ∈ X, e.cells.length = sz) {i : Nat} {e : PV} (he : X[i]? = some e) : lay (msC X z i) (i * sz) (e.cells.map .pv) = msC X z (i + 1) := by
  obtain ⟨hi, he'⟩ := List.getElem?_eq_some_iff.1 he
  have hl : ((X.take i).flatMap fun e => e.cells.map AV.pv).length = i * sz := by
    rw [flat_len (fun e he => hX e (List.mem_of_mem_take he)), List.length_take]; congr 1; omega
  have hc : (e.cells.map AV.pv).length = sz := by rw [List.length_map]; exact hX e (he' ▸ List.getElem_mem hi)
  have hn : X.length - i = (X.length - (i + 1)) + 1 := by omega
  rw [lay, msC, msC, hc]
  rw [List.take_left' hl, List.drop_append, List.drop_eq_nil_of_le (by rw [hl]; omega), hl, List.nil_append, hn, List.replicate_succ, List.flatten_cons]
  have e1 : i * sz + sz - i * sz = sz := by omega
  rw [e1, List.drop_left' hz, List.take_add_one, he]
  simp

theorem msC_all : msC X z X.length = (X.flatMap PV.cells).map .pv := by
  simp only [msC, List.take_length, Nat.sub_self, List.replicate_zero, List.flatten_nil, List.append_nil]
  induction X with
  | nil => rfl
  | cons e r ih => simp [ih]

theorem chunk_agg {sz : Nat} (h1 : sz ≠ 1) : ∀ {X : List PV}, (∀ e ∈ X, e.cells.length = sz ∧ e = .agg e.cells) → chunk sz X.length (X.flatMap PV.cells) = X
  | [], _ => rfl
  | e :: r, h => by
    obtain ⟨h2, h3⟩ := h e (by simp)
    rw [List.length_cons, chunk, if_neg h1, List.flatMap_cons, List.take_left' h2, List.drop_left' h2, chunk_agg h1 fun x hx => h x (by simp [hx]), ← h3]

theorem chunk_one : ∀ {X : List PV}, (∀ e ∈ X, e.cells = [e]) → chunk 1 X.length (X.flatMap PV.cells) = X
  | [], _ => rfl
  | e :: r, h => by
    have ih := chunk_one (X := r) fun x hx => h x (by simp [hx])
    rw [List.length_cons, chunk, if_pos rfl, List.flatMap_cons, h e (by simp)]
    simp [ih]

theorem idsL_pv {l : List AV} (h : ∀ x ∈ l, ∃ p, x = .pv p) : AV.idsL l = [] := by
  induction l with
  | nil => rfl
  | cons a r ih =>
    obtain ⟨p, rfl⟩ := h a (by simp)
    simp [AV.idsL, AV.ids, ih fun x hx => h x (by simp [hx])]

theorem msC_ids (hz : ∀ x ∈ z, ∃ p, x = AV.pv p) {i : Nat} : AV.idsL (msC X z i) = [] := by
  refine idsL_pv fun x hx => ?_
  rw [msC, List.mem_append] at hx
  rcases hx with hx | hx
  · rw [List.mem_flatMap] at hx
    obtain ⟨e, _, he⟩ := hx
    obtain ⟨p, _, rfl⟩ := List.mem_map.1 he
    exact ⟨p, rfl⟩
  · rw [List.mem_flatten] at hx
    obtain ⟨l, hl, hx⟩ := hx
    rw [List.mem_replicate] at hl
    exact hz x (hl.2 ▸ hx)

theorem refsIn_nil {b : List (Nat × List AV)} {l : List AV} (h : AV.idsL l = []) : refsIn b l = true := by simp [refsIn, h]
end
end Go.Ax
