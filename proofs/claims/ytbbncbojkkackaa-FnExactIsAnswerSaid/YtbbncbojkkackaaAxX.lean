/- The abstract layer, part 21: loops, as they are proved. -/
import Derived.Test.YtbbncbojkkackaaAxU
namespace Go.Ax

def mkT (n : Nat) (l : List (Nat × AV)) : List AV := (List.range n).map fun t => (lk t l).getD .bot

def leT : List AV → List AV → Prop
  | [], [] => True
  | x :: xs, y :: ys => (y = .bot ∨ x = y) ∧ leT xs ys
  | _, _ => False

theorem leT_ok : ∀ {xs ys : List AV}, leT xs ys → xs.length = ys.length ∧ ∀ (t : Nat) y, ys[t]? = some y → y = .bot ∨ xs[t]? = some y
  | [], [], _ => ⟨rfl, by simp⟩
  | [], _ :: _, h => h.elim
  | _ :: _, [], h => h.elim
  | x :: xs, y :: ys, ⟨h1, h2⟩ => by
    obtain ⟨g1, g2⟩ := leT_ok h2
    refine ⟨by simp [g1], ?_⟩
    intro t z hz
    cases t with
    | zero =>
      simp at hz; subst hz
      rcases h1 with h1 | h1
      · exact .inl h1
      · exact .inr (by simp [h1])
    | succ t => simpa using g2 t z (by simpa using hz)

def leB (a : List (Nat × List AV)) : List (Nat × List AV) → Prop
  | [] => True
  | (i, cs) :: r => lk i a = some cs ∧ leB a r

theorem leB_ok {a : List (Nat × List AV)} : ∀ {b : List (Nat × List AV)}, leB a b → ∀ i cs, lk i b = some cs → lk i a = some cs
  | [], _, i, cs, h => by simp [lk] at h
  | (j, x) :: r, ⟨h1, h2⟩, i, cs, h => by
    simp only [lk] at h
    split at h
    · rename_i e; injection h with h; subst h; subst e; exact h1
    · exact leB_ok h2 i cs h

def leK (a : Tips) : Tips → Prop
  | [] => True
  | (i, x) :: r => lk i a = some x ∧ leK a r

theorem leK_ok {a : Tips} : ∀ {b : Tips}, leK a b → ∀ i x, lk i b = some x → lk i a = some x
  | [], _, i, cs, h => by simp [lk] at h
  | (j, x) :: r, ⟨h1, h2⟩, i, cs, h => by
    simp only [lk] at h
    split at h
    · rename_i e; injection h with h; subst h; subst e; exact h1
    · exact leK_ok h2 i cs h

def hasKey (b : List (Nat × List AV)) (i : Nat) : Bool := (lk i b).isSome
def refsIn (b : List (Nat × List AV)) (l : List AV) : Bool := (AV.idsL l).all (hasKey b)
def refsAll (b : List (Nat × List AV)) : List (Nat × List AV) → Bool
  | [] => true
  | (_, cs) :: r => refsIn b cs && refsAll b r
def keepB (b : List (Nat × List AV)) : List (Nat × List AV) → Bool
  | [] => true
  | (i, _) :: r => (decide (i < 1000) || hasKey b i) && keepB b r

theorem refsAll_ok {b : List (Nat × List AV)} : ∀ {r : List (Nat × List AV)}, refsAll b r = true → ∀ i cs, lk i r = some cs → refsIn b cs = true
  | [], _, i, cs, h => by simp [lk] at h
  | (j, x) :: r, h, i, cs, hl => by
    simp only [refsAll, Bool.and_eq_true] at h
    simp only [lk] at hl
    split at hl
    · injection hl with hl; subst hl; exact h.1
    · exact refsAll_ok h.2 i cs hl

theorem keepB_ok {b : List (Nat × List AV)} : ∀ {r : List (Nat × List AV)}, keepB b r = true → ∀ i, 1000 ≤ i → (lk i r).isSome = true → (lk i b).isSome = true
  | [], _, i, _, h => by simp [lk] at h
  | (j, x) :: r, h, i, hi, hl => by
    simp only [keepB, Bool.and_eq_true, Bool.or_eq_true, decide_eq_true_eq] at h
    simp only [lk] at hl
    split at hl
    · rename_i e; subst e
      rcases h.1 with h1 | h1
      · omega
      · exact h1
    · exact keepB_ok h.2 i hi hl

theorem ids_all {b : List (Nat × List AV)} {l : List AV} (h : refsIn b l = true) : ∀ x ∈ l, ∀ i ∈ AV.ids x, (lk i b).isSome = true := by
  intro x hx i hi
  unfold refsIn at h
  rw [List.all_eq_true] at h
  exact h i (idsL_mem hx hi)

/-- The state b says no more than a does: as it is computed. -/
def LeC (a b : St) : Prop := leT a.tmps b.tmps ∧ leB a.boxes b.boxes ∧ leK a.tips b.tips ∧ refsIn b.boxes b.tmps = true ∧ refsAll b.boxes b.boxes = true ∧ keepB b.boxes a.boxes = true ∧ ∀ x, b.U x → a.U x

theorem LeC.le {a b : St} (h : LeC a b) : Le a b := by
  obtain ⟨h1, h2, h3, h4, h5, h6, h7⟩ := h
  exact ⟨(leT_ok h1).1, (leT_ok h1).2, leB_ok h2, ids_all h4, fun i cs hi => ids_all (refsAll_ok h5 i cs hi), leK_ok h3, h7, keepB_ok h6⟩

end Go.Ax
