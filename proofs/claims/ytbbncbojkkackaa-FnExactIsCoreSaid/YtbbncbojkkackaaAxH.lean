/- The abstract layer, part 8: a struct's literal; all that computes or reads, together. -/
import Derived.Test.YtbbncbojkkackaaAxG
set_option linter.unusedSimpArgs false
namespace Go.Ax
section
variable {P : Program} {tab : Tab} {M : Mem} {ρ : Nat → Option Nat} {w : World}

theorem run_list_mapM {α β : Type} (f : α → Sem β) (g : α → β) : ∀ (l : List α), (∀ a ∈ l, (f a).run P w = .ok (g a) w) → (l.mapM f).run P w = .ok (l.map g) w
  | [], _ => by simp
  | a :: l, h => by
    rw [List.mapM_cons]
    simp [h a (by simp), run_list_mapM f g l (fun x hx => h x (by simp [hx]))]

theorem run_array_mapM {α β : Type} (f : α → Sem β) (g : α → β) (l : Array α) (h : ∀ a ∈ l.toList, (f a).run P w = .ok (g a) w) : (l.mapM f).run P w = .ok (l.map g) w := by
  rw [Array.mapM_eq_mapM_toList]
  simp only [Sem.run_map, run_list_mapM f g l.toList h, Result.andThen_ok]
  congr 1
  apply Array.ext'
  simp

theorem lay_nil {α : Type} (cs : List α) (off : Nat) : lay cs off [] = cs := by simp [lay]

theorem lay_length {α : Type} (cs vs : List α) (off : Nat) (h : off + vs.length ≤ cs.length) : (lay cs off vs).length = cs.length := by
  simp [lay]; omega

theorem lay_getElem? {α : Type} (cs vs : List α) (off : Nat) (h : off + vs.length ≤ cs.length) (j : Nat) :
    (lay cs off vs)[j]? = if j < off then cs[j]? else if j < off + vs.length then vs[j - off]? else cs[j]? := by
  unfold lay
  have hl : (List.take off cs).length = off := by simp; omega
  by_cases h1 : j < off
  · rw [if_pos h1, List.append_assoc, List.getElem?_append_left (by omega), List.getElem?_take_of_lt h1]
  · rw [if_neg h1]
    by_cases h2 : j < off + vs.length
    · rw [if_pos h2, List.append_assoc, List.getElem?_append_right (by omega), hl, List.getElem?_append_left (by omega)]
    · rw [if_neg h2, List.getElem?_append_right (by simp; omega), List.getElem?_drop]
      congr 1
      simp [hl]
      omega

theorem lay_map {α β : Type} (f : α → β) (cs vs : List α) (off : Nat) : (lay cs off vs).map f = lay (cs.map f) off (vs.map f) := by
  simp [lay, List.map_take, List.map_drop]

theorem foldl_set (off : Nat) : ∀ (vs : List Value) (k : Nat) (cs : Array Value), off + k + vs.length ≤ cs.size →
    ((vs.zipIdx k).foldl (fun cs (x : Value × Nat) => cs.setIfInBounds (off + x.2) x.1) cs).toList = lay cs.toList (off + k) vs
  | [], k, cs, _ => by simp [lay_nil]
  | v :: vs, k, cs, h => by
    simp only [List.zipIdx_cons, List.foldl_cons]
    have ih := foldl_set off vs (k + 1) (cs.setIfInBounds (off + k) v) (by simp at h ⊢; omega)
    rw [ih]
    apply List.ext_getElem?
    intro j
    have h1 : off + (k + 1) + vs.length ≤ (cs.setIfInBounds (off + k) v).toList.length := by simp at h ⊢; omega
    have h2 : off + k + (v :: vs).length ≤ cs.toList.length := by simpa using h
    rw [lay_getElem? _ _ _ h1, lay_getElem? _ _ _ h2]
    simp only [Array.toList_setIfInBounds, List.getElem?_set, List.length_cons]
    by_cases e1 : j < off + k
    · have a1 : j < off + (k + 1) := by omega
      have a2 : ¬ off + k = j := by omega
      simp [e1, a1, a2]
    · by_cases e2 : j = off + k
      · subst e2
        have a1 : off + k < off + (k + 1) := by omega
        have a2 : off + k < cs.toList.length := by simp at h2 ⊢; omega
        simp at a2
        simp [a1, a2]
      · have a1 : ¬ j < off + (k + 1) := by omega
        have a2 : ¬ off + k = j := by omega
        simp only [e1, a1, a2, if_false]
        by_cases e3 : j < off + (k + 1) + vs.length
        · have a3 : j < off + k + (vs.length + 1) := by omega
          rw [if_pos e3, if_pos a3, show j - (off + k) = (j - (off + (k + 1))) + 1 by omega, List.getElem?_cons_succ]
        · have a3 : ¬ j < off + k + (vs.length + 1) := by omega
          rw [if_neg e3, if_neg a3]

theorem fill_step (off : Nat) (vs : Array Value) (cs : Array Value) (h : off + vs.size ≤ cs.size) :
    (vs.zipIdx.foldl (fun cs (x : Value × Nat) => cs.setIfInBounds (off + x.2) x.1) cs).toList = lay cs.toList off vs.toList := by
  have := foldl_set off vs.toList 0 cs (by simpa using h)
  rw [← Array.foldl_toList, Array.toList_zipIdx]
  simpa using this

/-- A value's cells, as an abstract value's. -/
theorem Rp.cellsOf {x : PV} {v : Value} (h : Rp M x v) (hx : ∀ l, x ≠ .tup l) : v.cells.size = x.cells.length ∧ ∀ (j : Nat) c, x.cells[j]? = some c → Rp M c (v.cells.getD j undef) ∧ (v.cells.getD j undef).oneCell' = true := by
  have one : ∀ {x : PV} {v : Value}, Rp M x v → v.oneCell' = true → x.cells = [x] → v.cells = #[v] → v.cells.size = x.cells.length ∧ ∀ (j : Nat) c, x.cells[j]? = some c → Rp M c (v.cells.getD j undef) ∧ (v.cells.getD j undef).oneCell' = true := by
    intro x v h h1 h2 h3
    rw [h2, h3]
    refine ⟨rfl, ?_⟩
    intro j c hj
    cases j with
    | zero => simp at hj; subst hj; exact ⟨h, h1⟩
    | succ j => simp at hj
  cases h with
  | lit v h => exact one (.lit v h) h rfl (by cases v <;> simp_all [Value.oneCell', Value.cells])
  | agg cs vs hl h1 h =>
    refine ⟨by simp [Value.cells, PV.cells, hl], ?_⟩
    intro j c hj
    simp only [PV.cells] at hj
    have hlt : j < vs.length := by rw [hl]; exact (List.getElem?_eq_some_iff.1 hj).1
    simp only [Value.cells]
    have e : vs.toArray.getD j undef = vs[j] := by simp [Array.getD, hlt]
    rw [e]
    exact ⟨h j c _ hj (List.getElem?_eq_getElem hlt), h1 _ (List.getElem_mem hlt)⟩
  | tup cs => exact absurd rfl (hx cs)
  | sl0 => exact one (.sl0 _ _ _) rfl rfl rfl
  | sl sz es b off cap F a1 a2 a3 a4 => exact one (.sl sz es b off cap F a1 a2 a3 a4) rfl rfl rfl
  | own0 => exact one (.own0 _ _ _) rfl rfl rfl
  | own s sz es b off cap F a1 a2 a3 a4 a5 => exact one (.own s sz es b off cap F a1 a2 a3 a4 a5) rfl rfl rfl

/-- A row of cells reads as a list. -/
def RowR (M : Mem) (cs : List PV) (vs : List Value) : Prop := vs.length = cs.length ∧ ∀ (j : Nat) c v, cs[j]? = some c → vs[j]? = some v → Rp M c v ∧ v.oneCell' = true

theorem RowR.lay {cs cs' : List PV} {vs vs' : List Value} (h : RowR M cs vs) (h' : RowR M cs' vs') (off : Nat) (hle : off + cs'.length ≤ cs.length) : RowR M (lay cs off cs') (lay vs off vs') := by
  have hle' : off + vs'.length ≤ vs.length := by rw [h'.1, h.1]; exact hle
  refine ⟨by rw [lay_length _ _ _ hle, lay_length _ _ _ hle', h.1], ?_⟩
  intro j c v hc hv
  rw [lay_getElem? _ _ _ hle] at hc
  rw [lay_getElem? _ _ _ hle', h'.1] at hv
  split at hc
  · rename_i h1; rw [if_pos h1] at hv; exact h.2 _ _ _ hc hv
  · rename_i h1
    rw [if_neg h1] at hv
    split at hc
    · rename_i h2; rw [if_pos h2] at hv; exact h'.2 _ _ _ hc hv
    · rename_i h2; rw [if_neg h2] at hv; exact h.2 _ _ _ hc hv

theorem Rp.row {x : PV} {v : Value} (h : Rp M x v) (hx : ∀ l, x ≠ .tup l) : RowR M x.cells v.cells.toList := by
  obtain ⟨h1, h2⟩ := h.cellsOf hx
  refine ⟨by simpa using h1, ?_⟩
  intro j c u hc hu
  have := h2 j c hc
  have e : v.cells.getD j undef = u := by
    have hu' : v.cells[j]? = some u := by simpa using hu
    simp [Array.getD_eq_getD_getElem?, hu']
  rwa [e] at this

theorem fill_ok {place : Nat → Option (Nat × Nat)} {place' : Nat → Option (Nat × Nat)} (hp : ∀ i p, place i = some p → place' i = some p) :
    ∀ (parts : List (Nat × AV)) (vparts : List (Nat × Value)) (cs : List PV) (vs : Array Value) (r : List PV), vparts.map (·.1) = parts.map (·.1) →
      (∀ (j : Nat) x y, parts[j]? = some x → vparts[j]? = some y → RpA M ρ x.2 y.2) → RowR M cs vs.toList → fillV place cs parts = some r →
      ∃ vr, Instr.fill place' vs vparts = some vr ∧ RowR M r vr.toList
  | [], [], cs, vs, r, _, _, hR, h => by simp only [fillV, Option.some.injEq] at h; subst h; exact ⟨vs, rfl, hR⟩
  | [], y :: vparts, _, _, _, h, _, _, _ => by simp at h
  | x :: parts, [], _, _, _, h, _, _, _ => by simp at h
  | (i, x) :: parts, (i', y) :: vparts, cs, vs, r, hfst, hrel, hR, h => by
    simp only [List.map_cons, List.cons.injEq] at hfst
    obtain ⟨rfl, hfst⟩ := hfst
    simp only [fillV] at h
    split at h
    · rename_i off size v hpl
      split at h
      · rename_i hc
        have hx := hrel 0 _ _ rfl rfl
        simp only at hx
        have hnt : ∀ l, v ≠ .tup l := fun l e => by rw [e] at hc; simp [PV.isTup] at hc
        cases hx with
        | pv _ _ hx =>
          have hrow := hx.row hnt
          have hsz : y.cells.size = size := by have := hrow.1; simp at this; omega
          have hvs : vs.size = cs.length := by have := hR.1; simpa using this
          have hst := fill_step off y.cells vs (by omega)
          simp only [Instr.fill, hp _ _ hpl]
          have hcond : ¬ (y.cells.size ≠ size || decide (off + y.cells.size > vs.size)) = true := by simp; omega
          rw [if_neg hcond]
          refine fill_ok hp parts vparts _ _ r hfst (fun j a b ha hb => hrel (j + 1) a b (by simpa using ha) (by simpa using hb)) ?_ h
          rw [hst]
          exact hR.lay hrow off (by omega)
      · cases h
    · cases h

theorem run_buildA (hT : TabOK P tab) {e : Operand → AV} {ε : Operand → Value} (he : ∀ x, RpA M ρ (e x) (ε x)) (hc : ∀ v, ε (.const v) = v) {t : TypeId} {parts : Array (Nat × Operand)} {r : AV}
    (h : buildA tab t e parts.toList = some r) : ∃ u, (Instr.build t (parts.map fun p => (p.1, ε p.2))).run P w = .ok u w ∧ RpA M ρ r u := by
  unfold buildA at h
  split at h
  · rename_i s1 s2 fs z ht
    rw [Option.map_eq_some_iff] at h
    obtain ⟨cs, hcs, rfl⟩ := h
    obtain ⟨d, hd, hok⟩ := (hT t _ ht).und
    cases d <;> simp only [tdOK] at hok
    rename_i F
    obtain ⟨rfl, hsz⟩ := hok
    obtain ⟨inf, zv, hi, _, _, hz, hzl, hzs, hzc⟩ := (hT t _ ht).info
    have hmap := run_array_mapM (P := P) (w := w) (fun f : Field => Prod.mk f.offset <$> sizeOf f.type) (fun f => (f.offset, ((P.info? f.type).map (·.size)).getD 0)) F (by
      intro f hf
      obtain ⟨inf', hi', _⟩ := hsz f hf
      simp [sizeOf, typeInfo, hi'])
    have hzrow : RowR M z zv.cells.toList := by
      refine ⟨by simpa using hzl, ?_⟩
      intro j c u hc hu
      have h1 := hzc M j c hc
      have hu' : zv.cells[j]? = some u := by simpa using hu
      have e1 : zv.cells.getD j undef = u := by simp [Array.getD_eq_getD_getElem?, hu']
      rwa [e1] at h1
    obtain ⟨vr, hvr, hrow⟩ := fill_ok (M := M) (ρ := ρ) (place := placeOf tab (F.toList.map fun f => (f.offset, f.type))) (place' := ((F.map fun f => (f.offset, ((P.info? f.type).map (·.size)).getD 0))[·]?))
      (by
        intro i p hp
        unfold placeOf at hp
        simp only [List.getElem?_map] at hp
        cases hF : F.toList[i]? with
        | none => simp [hF] at hp
        | some f =>
          simp only [hF, Option.map_some, Option.map_eq_some_iff] at hp
          obtain ⟨j, hj, rfl⟩ := hp
          obtain ⟨inf', _, h1, h2, _⟩ := (hT _ _ hj).info
          have hF' : F[i]? = some f := by simpa using hF
          simp [hF', h1, h2])
      (parts.toList.map (evF tab (F.toList.map fun f => (f.offset, f.type)) e)) (parts.toList.map fun p => (p.1, ε p.2)) z zv.cells cs (by simp [evF, Function.comp_def])
      (by
        intro j x y hx hy
        simp only [List.getElem?_map, Option.map_eq_some_iff] at hx hy
        obtain ⟨p, hp, rfl⟩ := hx
        obtain ⟨p', hp', rfl⟩ := hy
        obtain rfl : p = p' := by rw [hp] at hp'; injection hp'
        simp only [evF]
        split
        · exact evT_ok he hc _ _
        · exact he _)
      hzrow
      hcs
    refine ⟨.agg vr, ?_, ?_⟩
    · have e1 : (parts.map fun p => (p.1, ε p.2)).toList = parts.toList.map fun p => (p.1, ε p.2) := by simp
      simp [Instr.build, zeroValue, typeInfo, hi, hz, run_underlying hd]
      rw [hmap]
      simp only [Result.andThen_ok]
      rw [hvr]
      rfl
    · have : vr = vr.toList.toArray := by simp
      rw [this]
      exact .pv _ _ (.agg _ _ hrow.1 (fun v hv => by
        obtain ⟨j, hj, rfl⟩ := List.getElem_of_mem hv
        exact (hrow.2 j (cs[j]'(by have := hrow.1; omega)) _ (List.getElem?_eq_getElem _) (List.getElem?_eq_getElem hj)).2) (fun i c v hc hv => (hrow.2 i c v hc hv).1))
  · cases h

end
end Go.Ax
