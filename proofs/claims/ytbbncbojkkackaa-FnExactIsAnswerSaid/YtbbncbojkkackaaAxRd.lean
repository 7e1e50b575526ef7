/- The abstract layer: what a reading of data says of the values read. -/
import Derived.Test.YtbbncbojkkackaaAxBr
set_option linter.unusedVariables false
namespace Go.Ax
open Go.ChangeShapes Go.WideShapes Go.ChangeAt Go.RowKit

/-- A row of cells reads as a row of plain values. -/
def RpC (M : Mem) (ps : List PV) (vs : List Value) : Prop := vs.length = ps.length ∧ ∀ (i : Nat) p v, ps[i]? = some p → vs[i]? = some v → v.oneCell' = true ∧ Rp M p v

theorem RpC.nil (M : Mem) : RpC M [] [] := ⟨rfl, fun i p v h => by simp at h⟩
theorem RpC.cons {M : Mem} {p : PV} {v : Value} {ps : List PV} {vs : List Value} (h1 : v.oneCell' = true) (h2 : Rp M p v) (h : RpC M ps vs) : RpC M (p :: ps) (v :: vs) := by
  refine ⟨by simp [h.1], fun i p' v' h3 h4 => ?_⟩
  cases i with
  | zero => simp at h3 h4; subst h3; subst h4; exact ⟨h1, h2⟩
  | succ i => exact h.2 i p' v' (by simpa using h3) (by simpa using h4)
theorem RpC.append {M : Mem} {ps qs : List PV} {vs ws : List Value} (h : RpC M ps vs) (k : RpC M qs ws) : RpC M (ps ++ qs) (vs ++ ws) := by
  induction vs generalizing ps with
  | nil => cases ps with
    | nil => exact k
    | cons a b => have := h.1; simp at this
  | cons v vs ih => cases ps with
    | nil => have := h.1; simp at this
    | cons p ps =>
      have h0 := h.2 0 p v rfl rfl
      exact RpC.cons h0.1 h0.2 (ih ⟨by simpa using h.1, fun i p v h1 h2 => h.2 (i + 1) p v (by simpa using h1) (by simpa using h2)⟩)
theorem RpC.agg {M : Mem} {ps : List PV} {vs : List Value} (h : RpC M ps vs) : Rp M (.agg ps) (.agg vs.toArray) :=
  .agg ps vs h.1 (fun v hv => by
    obtain ⟨i, hi, rfl⟩ := List.getElem_of_mem hv
    exact (h.2 i (ps[i]'(by rw [← h.1]; exact hi)) vs[i] (List.getElem?_eq_getElem _) (List.getElem?_eq_getElem hi)).1) fun i c v h1 h2 => (h.2 i c v h1 h2).2

section
variable {H : Type} {enc : TypeId × Value → H} {P : Program} {w : World} {spare : Nat → Bool} {held : Bool}

theorem add_plain (b off n : Nat) : (⟨b, off, none⟩ : Addr).add n = ⟨b, off + n, none⟩ := by
  unfold Addr.add
  split
  · subst_vars; rfl
  · rfl

theorem read_slice {T : Type} (av : T → PV) (good : T → Prop) {sz fuel : Nat} {t e : TypeId} {cs : List Value} {x : DataW H × List MemPlace} (hsz : 0 < sz) (hav : ∀ τ, (av τ).cells.length = sz)
    (ht : P.underlying t = some (.slice e)) (hc : P.cellsOf e = sz) (h : DataW.trod enc P w 0 spare held fuel t cs = some x)
    (hel : ∀ n cs x, fuel = n + 1 → DataW.trod enc P w 0 spare held n e cs = some x → ∃ τ, good τ ∧ RpC (memOf w) (av τ).cells cs) :
    ∃ (l : List T) (s : Value), cs = [s] ∧ s.oneCell' = true ∧ l.length ≤ 9223372036854775807 ∧ (∀ τ ∈ l, good τ) ∧ Rp (memOf w) (.sl sz (l.map av)) s := by
  rcases DataW.trod_slice ht h with ⟨rfl, _⟩ | ⟨a, len, cap, elems, rest, n, hn, rfl, _, _, hlc, hcm, hle, hE, _⟩
  · exact ⟨[], _, rfl, rfl, by simp, by simp, .sl0 _ _ _⟩
  · have hml : (maxLen : Nat) = 9223372036854775807 := by decide
    by_cases h0 : len = 0
    · subst h0
      exact ⟨[], _, rfl, rfl, by simp, by simp, .sl0 _ _ _⟩
    have hx : ∀ i : Fin len, ∃ q : T × List Value, good q.1 ∧ RpC (memOf w) (av q.1).cells q.2 ∧ q.2.length = sz ∧ ∀ j, j < sz → w.cell? ((a.add (i.1 * sz)).add j) = q.2[j]? := by
      intro i
      have h1 := hE i.1 i.2
      rw [List.getElem?_eq_getElem (by rw [hle]; exact i.2), hc] at h1
      obtain ⟨cs', h2, h3⟩ := Option.bind_eq_some_iff.1 h1
      obtain ⟨τ, g1, g2⟩ := hel n cs' _ hn h3
      obtain ⟨_, k1, k2⟩ := World.cells?_some h2
      exact ⟨(τ, cs'), g1, g2, k1, k2⟩
    obtain ⟨f, hf⟩ := Classical.axiomOfChoice hx
    have hsp : a.spot = none := by
      obtain ⟨_, _, k1, k2⟩ := hf ⟨0, by omega⟩
      have k3 := k2 0 hsz
      rw [List.getElem?_eq_getElem (by rw [k1]; exact hsz)] at k3
      unfold World.cell? at k3
      split at k3
      · split at k3
        · cases k3
        · rename_i q
          cases hs : a.spot with
          | none => rfl
          | some s => exact absurd (by simp [Addr.add, hs]) q
      · cases k3
    obtain ⟨b, off, sp⟩ := a
    simp only at hsp
    subst hsp
    have hlen : (List.ofFn fun i => (f i).1).length = len := by simp
    refine ⟨List.ofFn fun i => (f i).1, _, rfl, rfl, by rw [hlen]; omega, ?_, ?_⟩
    · intro τ hτ
      rw [List.mem_ofFn] at hτ
      obtain ⟨i, rfl⟩ := hτ
      exact (hf i).1
    · have hmap : ((List.ofFn fun i => (f i).1).map av).length = len := by simp
      have key : ∀ (i j : Nat) ep c, ((List.ofFn fun i => (f i).1).map av)[i]? = some ep → ep.cells[j]? = some c →
          ∃ (hi : i < len) (v : Value), (f ⟨i, hi⟩).2[j]? = some v ∧ (memOf w).cell b (off + i * sz + j) = some v ∧ v.oneCell' = true ∧ Rp (memOf w) c v := by
        intro i j ep c h1 h2
        have hi : i < len := by
          have := (List.getElem?_eq_some_iff.1 h1).1
          rw [hmap] at this; exact this
        have h3 : ep = av (f ⟨i, hi⟩).1 := by
          rw [List.getElem?_map, List.getElem?_ofFn, dif_pos hi] at h1
          simpa using h1.symm
        subst h3
        have hj : j < sz := by
          have := (List.getElem?_eq_some_iff.1 h2).1
          rw [hav] at this; exact this
        obtain ⟨_, g2, k1, k2⟩ := hf ⟨i, hi⟩
        have hjv : (f ⟨i, hi⟩).2[j]? = some ((f ⟨i, hi⟩).2[j]'(by rw [k1]; exact hj)) := List.getElem?_eq_getElem _
        refine ⟨hi, _, hjv, ?_, g2.2 j c _ h2 hjv⟩
        have k3 := k2 j hj
        rw [hjv, add_plain, add_plain] at k3
        exact k3
      have := Rp.sl (M := memOf w) sz ((List.ofFn fun i => (f i).1).map av) b off cap (fun i j => if hi : i < len then ((f ⟨i, hi⟩).2[j]?).getD undef else undef) (by rw [hmap]; exact hlc)
        (fun e he => by
          obtain ⟨τ, _, rfl⟩ := List.mem_map.1 he
          exact hav τ)
        (fun i j ep c h1 h2 => by
          obtain ⟨hi, v, g1, g2, g3, g4⟩ := key i j ep c h1 h2
          simp only [dif_pos hi, g1, Option.getD_some]
          exact ⟨g2, g3⟩)
        (fun i j ep c h1 h2 => by
          obtain ⟨hi, v, g1, g2, g3, g4⟩ := key i j ep c h1 h2
          simp only [dif_pos hi, g1, Option.getD_some]
          exact g4)
      rw [hmap] at this
      exact this
end
end Go.Ax
