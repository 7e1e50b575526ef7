/- The abstract layer, part 12: append, a literal of a slice's type, a slice against nil. -/
import Derived.Test.YtbbncbojkkackaaAxK
set_option linter.unusedSimpArgs false
namespace Go.Ax

/-- Memory, with a row laid into block b from place o0 on. -/
def Mem.row (M : Mem) (b o0 : Nat) (news : List Value) : Mem where
  cell := fun b' o => if b' = b ∧ o0 ≤ o ∧ o < o0 + news.length then news[o - o0]? else M.cell b' o
  cap := M.cap

def Mem.setCap (M : Mem) (b n : Nat) : Mem where
  cell := M.cell
  cap := fun b' => if b' = b then some n else M.cap b'

theorem Mem.row_le {M : Mem} {b o0 : Nat} {news : List Value} (h : ∀ o, o0 ≤ o → o < o0 + news.length → M.cell b o = none) : M.Le (M.row b o0 news) := by
  refine ⟨fun b' o v hv => ?_, fun _ _ h => h⟩
  simp only [Mem.row]
  split
  · rename_i hc
    obtain ⟨rfl, h1, h2⟩ := hc
    rw [h o h1 h2] at hv; cases hv
  · exact hv

theorem Mem.row_cell {M : Mem} {b o0 : Nat} {news : List Value} {k : Nat} {v : Value} (h : news[k]? = some v) : (M.row b o0 news).cell b (o0 + k) = some v := by
  have hlt := (List.getElem?_eq_some_iff.1 h).1
  show (if b = b ∧ o0 ≤ o0 + k ∧ o0 + k < o0 + news.length then news[o0 + k - o0]? else M.cell b (o0 + k)) = some v
  rw [if_pos ⟨rfl, by omega, by omega⟩]
  rwa [show o0 + k - o0 = k by omega]

theorem Mem.setCap_le {M : Mem} {b n : Nat} (h : M.cap b = none ∨ M.cap b = some n) : M.Le (M.setCap b n) := by
  refine ⟨fun _ _ _ h => h, fun b' m hm => ?_⟩
  simp only [Mem.setCap]
  split
  · rename_i e; subst e
    rcases h with h | h
    · rw [h] at hm; cases hm
    · rw [h] at hm; exact hm
  · exact hm

/-- A list of values is what a list of elements' cells read as, element behind element. -/
structure FlatR (M : Mem) (sz : Nat) (es : List PV) (vals : List Value) : Prop where
  z : ∀ e ∈ es, e.cells.length = sz
  len : vals.length = es.length * sz
  rel : ∀ (i j : Nat) e c v, es[i]? = some e → e.cells[j]? = some c → vals[i * sz + j]? = some v → Rp M c v ∧ v.oneCell' = true

theorem FlatR.mono {M M' : Mem} {sz : Nat} {es : List PV} {vals : List Value} (h : FlatR M sz es vals) (hM : M.Le M') : FlatR M' sz es vals :=
  ⟨h.z, h.len, fun i j e c v h1 h2 h3 => ⟨(h.rel i j e c v h1 h2 h3).1.mono hM, (h.rel i j e c v h1 h2 h3).2⟩⟩

theorem idx_lt {i j sz n : Nat} (hi : i < n) (hj : j < sz) : i * sz + j < n * sz := by
  have : (i + 1) * sz ≤ n * sz := Nat.mul_le_mul_right _ hi
  rw [Nat.add_mul] at this
  omega

theorem FlatR.append {M : Mem} {sz : Nat} {es ys : List PV} {vals news : List Value} (h : FlatR M sz es vals) (h' : FlatR M sz ys news) : FlatR M sz (es ++ ys) (vals ++ news) := by
  refine ⟨?_, by rw [List.length_append, List.length_append, h.len, h'.len, Nat.add_mul], ?_⟩
  · intro e he
    rcases List.mem_append.1 he with he | he
    · exact h.z e he
    · exact h'.z e he
  · intro i j e c v hi hj hv
    by_cases hlt : i < es.length
    · rw [List.getElem?_append_left hlt] at hi
      have hjl : j < sz := by rw [← h.z e (List.mem_of_getElem? hi)]; exact (List.getElem?_eq_some_iff.1 hj).1
      rw [List.getElem?_append_left (by rw [h.len]; exact idx_lt hlt hjl)] at hv
      exact h.rel i j e c v hi hj hv
    · rw [List.getElem?_append_right (by omega)] at hi
      have hle : es.length * sz ≤ i * sz := Nat.mul_le_mul_right _ (by omega)
      rw [List.getElem?_append_right (by rw [h.len]; omega), h.len, show i * sz + j - es.length * sz = (i - es.length) * sz + j by rw [Nat.sub_mul]; omega] at hv
      exact h'.rel _ j e c v hi hj hv

theorem FlatR.one {M : Mem} {sz : Nat} {es : List PV} {vals : List Value} (h : FlatR M sz es vals) (hsz : 0 < sz) : ∀ v ∈ vals, v.oneCell' = true := by
  intro v hv
  obtain ⟨k, hk, rfl⟩ := List.getElem_of_mem hv
  have hk' : k < es.length * sz := by rw [← h.len]; exact hk
  have hi : k / sz < es.length := Nat.div_lt_of_lt_mul (by rw [Nat.mul_comm]; exact hk')
  have hj : k % sz < sz := Nat.mod_lt _ hsz
  have hz := h.z es[k / sz] (List.getElem_mem hi)
  have e1 : k / sz * sz + k % sz = k := by rw [Nat.mul_comm]; exact Nat.div_add_mod k sz
  exact (h.rel (k / sz) (k % sz) es[k / sz] (es[k / sz].cells[k % sz]'(by omega)) vals[k] (List.getElem?_eq_getElem hi) (List.getElem?_eq_getElem _) (by rw [e1]; exact List.getElem?_eq_getElem hk)).2

theorem FlatR.ownOf {M : Mem} {s sz b off cap : Nat} {es : List PV} {vals : List Value} (h : FlatR M sz es vals) (hcap : es.length ≤ cap) (hend : M.cap b = some (off + cap * sz))
    (hc : ∀ (k : Nat) v, vals[k]? = some v → M.cell b (off + k) = some v) : Rp M (.own s (some (b, off)) sz es) (.slice (some ⟨b, off, none⟩) es.length cap) := by
  have key : ∀ (i j : Nat) e c, es[i]? = some e → e.cells[j]? = some c → ∃ v, vals[i * sz + j]? = some v ∧ vals.getD (i * sz + j) undef = v := by
    intro i j e c hi hj
    have hil := (List.getElem?_eq_some_iff.1 hi).1
    have hjl : j < sz := by rw [← h.z e (List.mem_of_getElem? hi)]; exact (List.getElem?_eq_some_iff.1 hj).1
    have hlt : i * sz + j < vals.length := by rw [h.len]; exact idx_lt hil hjl
    exact ⟨vals[i * sz + j], List.getElem?_eq_getElem hlt, by rw [List.getD_eq_getElem?_getD, List.getElem?_eq_getElem hlt]; rfl⟩
  refine .own s sz es b off cap (fun i j => vals.getD (i * sz + j) undef) hcap hend h.z ?_ ?_
  · intro i j e c hi hj
    obtain ⟨v, h1, h2⟩ := key i j e c hi hj
    simp only [h2]
    rw [show off + i * sz + j = off + (i * sz + j) by omega]
    exact ⟨hc _ v h1, (h.rel i j e c v hi hj h1).2⟩
  · intro i j e c hi hj
    obtain ⟨v, h1, h2⟩ := key i j e c hi hj
    simp only [h2]
    exact (h.rel i j e c v hi hj h1).1

/-- What a slice reads as, element behind element. -/
theorem Rp.flat {M : Mem} {x : PV} {v : Value} {sz : Nat} {es : List PV} (h : Rp M x v) (hx : x.elems = some (sz, es)) (hsz : es = [] ∨ 0 < sz) :
    ∃ a cap vals, v = .slice a es.length cap ∧ es.length ≤ cap ∧ (es = [] ∨ ∃ b off, a = some ⟨b, off, none⟩ ∧ ∀ (k : Nat) u, vals[k]? = some u → M.cell b (off + k) = some u) ∧ FlatR M sz es vals := by
  have build : ∀ (b off cap : Nat) (F : Nat → Nat → Value), es.length ≤ cap → (∀ e ∈ es, e.cells.length = sz) →
      (∀ (i j : Nat) e c, es[i]? = some e → e.cells[j]? = some c → M.cell b (off + i * sz + j) = some (F i j) ∧ (F i j).oneCell' = true) →
      (∀ (i j : Nat) e c, es[i]? = some e → e.cells[j]? = some c → Rp M c (F i j)) →
      ∃ a cap' vals, Value.slice (some ⟨b, off, none⟩) es.length cap = .slice a es.length cap' ∧ es.length ≤ cap' ∧ (es = [] ∨ ∃ b off, a = some ⟨b, off, none⟩ ∧ ∀ (k : Nat) u, vals[k]? = some u → M.cell b (off + k) = some u) ∧ FlatR M sz es vals := by
    intro b off cap F hcap hz hm hr
    rcases hsz with h0 | hsz
    · subst h0
      exact ⟨_, cap, [], rfl, hcap, .inl rfl, ⟨by simp, by simp, by simp⟩⟩
    refine ⟨_, cap, (List.range (es.length * sz)).map (fun k => F (k / sz) (k % sz)), rfl, hcap, .inr ⟨b, off, rfl, ?_⟩, ⟨hz, by simp, ?_⟩⟩
    · intro k u hk
      have hk' : k < es.length * sz := by
        have := (List.getElem?_eq_some_iff.1 hk).1
        simpa using this
      simp [hk'] at hk
      subst hk
      have hi : k / sz < es.length := Nat.div_lt_of_lt_mul (by rw [Nat.mul_comm]; exact hk')
      have hj : k % sz < sz := Nat.mod_lt _ hsz
      have hz' := hz es[k / sz] (List.getElem_mem hi)
      have := (hm (k / sz) (k % sz) es[k / sz] (es[k / sz].cells[k % sz]'(by omega)) (List.getElem?_eq_getElem hi) (List.getElem?_eq_getElem _)).1
      rwa [show off + k / sz * sz + k % sz = off + k by
        have e1 : k / sz * sz + k % sz = k := by rw [Nat.mul_comm]; exact Nat.div_add_mod k sz
        omega] at this
    · intro i j e c v hi hj hv
      have hil := (List.getElem?_eq_some_iff.1 hi).1
      have hjl : j < sz := by rw [← hz e (List.mem_of_getElem? hi)]; exact (List.getElem?_eq_some_iff.1 hj).1
      have hlt : i * sz + j < es.length * sz := idx_lt hil hjl
      have d1 : (i * sz + j) / sz = i := by
        rw [Nat.mul_comm, Nat.mul_add_div hsz]; rw [Nat.div_eq_of_lt hjl]; omega
      have d2 : (i * sz + j) % sz = j := by
        rw [Nat.mul_comm, Nat.mul_add_mod]; exact Nat.mod_eq_of_lt hjl
      simp [hlt, d1, d2] at hv
      subst hv
      exact ⟨hr i j e c hi hj, (hm i j e c hi hj).2⟩
  cases h <;> simp only [PV.elems] at hx <;> try (cases hx; done)
  · injection hx with hx; injection hx with h1 h2; subst h1; subst h2
    exact ⟨_, _, [], rfl, Nat.zero_le _, .inl rfl, ⟨by simp, by simp, by simp⟩⟩
  · rename_i b off cap F hcap hz hm hr
    injection hx with hx; injection hx with h1 h2; subst h1; subst h2
    exact build b off cap F hcap hz hm hr
  · injection hx with hx; injection hx with h1 h2; subst h1; subst h2
    exact ⟨_, _, [], rfl, Nat.zero_le _, .inl rfl, ⟨by simp, by simp, by simp⟩⟩
  · rename_i b off cap F hcap hend hz hm hr
    injection hx with hx; injection hx with h1 h2; subst h1; subst h2
    exact build b off cap F hcap hz hm hr

end Go.Ax
