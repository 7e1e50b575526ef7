/- The abstract layer, part 20: the table of types, checked by the kernel. -/
import Derived.Test.YtbbncbojkkackaaAxR
set_option linter.unusedSimpArgs false
namespace Go.Ax

def zeroB : PV → Value → Bool
  | .lit (.int k n), .int k' n' => k == k' && n == n'
  | .lit (.bool b), .bool b' => b == b'
  | .lit (.string s), .string s' => s.data.toList.isEmpty && s'.data.toList.isEmpty
  | .own _ none _ [], .slice none 0 0 => true
  | .lit (.pointer none), .pointer none => true
  | .lit .nilFunc, .nilFunc => true
  | _, _ => false

theorem zeroB_ok {M : Mem} {x : PV} {v : Value} (h : zeroB x v = true) : Rp M x v ∧ v.oneCell' = true := by
  unfold zeroB at h
  split at h
  · simp only [Bool.and_eq_true, beq_iff_eq] at h
    obtain ⟨rfl, rfl⟩ := h
    exact ⟨.lit _ rfl, rfl⟩
  · simp only [beq_iff_eq] at h
    subst h
    exact ⟨.lit _ rfl, rfl⟩
  · rename_i s s'
    simp only [Bool.and_eq_true, List.isEmpty_iff] at h
    have e1 : s = s' := by
      obtain ⟨⟨a⟩⟩ := s
      obtain ⟨⟨b⟩⟩ := s'
      simp at h
      obtain ⟨rfl, rfl⟩ := h
      rfl
    subst e1
    exact ⟨.lit _ rfl, rfl⟩
  · exact ⟨.own0 _ _ _, rfl⟩
  · exact ⟨.lit _ rfl, rfl⟩
  · exact ⟨.lit _ rfl, rfl⟩
  · cases h

def zerosB : List PV → List Value → Bool
  | [], [] => true
  | x :: xs, v :: vs => zeroB x v && zerosB xs vs
  | _, _ => false

theorem zerosB_ok {M : Mem} : ∀ {xs : List PV} {vs : List Value}, zerosB xs vs = true → vs.length = xs.length ∧ ∀ (j : Nat) c v, xs[j]? = some c → vs[j]? = some v → Rp M c v ∧ v.oneCell' = true
  | [], [], _ => ⟨rfl, by simp⟩
  | [], _ :: _, h => by simp [zerosB] at h
  | _ :: _, [], h => by simp [zerosB] at h
  | x :: xs, v :: vs, h => by
    simp only [zerosB, Bool.and_eq_true] at h
    obtain ⟨h1, h2⟩ := zerosB_ok (M := M) h.2
    refine ⟨by simp [h1], ?_⟩
    intro j c u hc hu
    cases j with
    | zero => simp at hc hu; subst hc; subst hu; exact zeroB_ok h.1
    | succ j => exact h2 j c u (by simpa using hc) (by simpa using hu)

def tdB (P : Program) : TD → TypeDesc → Bool
  | .str, .string => true
  | .bool, .bool => true
  | .int k, .int k' => k == k'
  | .slice e, .slice e' => e == e'
  | .struct fs, .struct F => fs == F.toList.map (fun f => (f.offset, f.type)) && F.toList.all fun f => match P.info? f.type with | some inf => inf.size != 0 | none => false
  | .fn, .func .. => true
  | .ptr, .pointer _ => true
  | _, _ => false

theorem tdB_ok {P : Program} {x : TD} {d : TypeDesc} (h : tdB P x d = true) : tdOK P x d := by
  unfold tdB at h
  split at h <;> simp only [tdOK]
  · simpa using h
  · simpa using h
  · simp only [Bool.and_eq_true, beq_iff_eq, List.all_eq_true] at h
    refine ⟨h.1, fun f hf => ?_⟩
    have := h.2 f hf
    split at this
    · rename_i inf hi
      exact ⟨inf, hi, by simpa using this⟩
    · cases this
  · cases h

def tiB (P : Program) (t : TypeId) (i : TI) : Bool :=
  match P.info? t, P.underlying t with
  | some inf, some d => inf.size == i.size && inf.bytes == i.bytes && i.zero.length == i.size && (match inf.zero with | some z => zerosB i.zero z.cells.toList | none => false) && tdB P i.td d
  | _, _ => false

theorem tiB_ok {P : Program} {t : TypeId} {i : TI} (h : tiB P t i = true) : TIOK P t i := by
  unfold tiB at h
  split at h
  · rename_i inf d hi hd
    simp only [Bool.and_eq_true, beq_iff_eq] at h
    obtain ⟨⟨⟨⟨h1, h2⟩, h3⟩, h4⟩, h5⟩ := h
    split at h4
    · rename_i z hz
      have hl := (zerosB_ok (M := ⟨fun _ _ => none, fun _ => none⟩) h4).1
      refine ⟨⟨inf, z, hi, h1, h2, hz, by simpa using hl, h3, ?_⟩, ⟨d, hd, tdB_ok h5⟩⟩
      intro M j c hc
      have hlt : j < z.cells.toList.length := by rw [hl]; exact (List.getElem?_eq_some_iff.1 hc).1
      have := (zerosB_ok (M := M) h4).2 j c z.cells.toList[j] hc (List.getElem?_eq_getElem hlt)
      have e1 : z.cells.getD j undef = z.cells.toList[j] := by
        have : j < z.cells.size := by simpa using hlt
        simp [Array.getD, this]
      rw [e1]; exact this
    · cases h4
  · cases h

theorem tab_ok {P : Program} {L : List (Nat × TI)} (h : (L.all fun p => tiB P p.1 p.2) = true) : TabOK P (fun t => lk t L) := by
  intro t i ht
  rw [List.all_eq_true] at h
  have : ∀ L : List (Nat × TI), lk t L = some i → (t, i) ∈ L := by
    intro L
    induction L with
    | nil => intro h; simp [lk] at h
    | cons x L ih =>
      obtain ⟨j, y⟩ := x
      intro h
      simp only [lk] at h
      split at h
      · rename_i e; injection h with h; subst h; subst e; simp
      · exact List.mem_cons_of_mem _ (ih h)
  exact tiB_ok (h _ (this L ht))

end Go.Ax
