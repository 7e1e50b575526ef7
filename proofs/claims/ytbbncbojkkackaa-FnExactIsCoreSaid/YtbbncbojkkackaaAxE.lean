/- The abstract layer, part 5: what computes or reads is computed and read rightly. -/
import Derived.Test.YtbbncbojkkackaaAxD
import Derived.Deep.AppendSrc
import Derived.Laws.MakeOwn
import Derived.Laws.Slices
import Derived.Laws.Strings3
import Derived.Laws.Concat
set_option linter.unusedSimpArgs false
namespace Go.Ax

def tdOK (P : Program) : TD → TypeDesc → Prop
  | .str, .string => True
  | .bool, .bool => True
  | .int k, .int k' => k = k'
  | .slice e, .slice e' => e = e'
  | .struct fs, .struct F => fs = F.toList.map (fun f => (f.offset, f.type)) ∧ ∀ f ∈ F.toList, ∃ inf, P.info? f.type = some inf ∧ inf.size ≠ 0
  | .fn, .func .. => True
  | .ptr, .pointer _ => True
  | _, _ => False

structure TIOK (P : Program) (t : TypeId) (i : TI) : Prop where
  info : ∃ inf z, P.info? t = some inf ∧ inf.size = i.size ∧ inf.bytes = i.bytes ∧ inf.zero = some z ∧ z.cells.size = i.zero.length ∧ i.zero.length = i.size ∧
    ∀ (M : Mem) (j : Nat) c, i.zero[j]? = some c → Rp M c (z.cells.getD j undef) ∧ (z.cells.getD j undef).oneCell' = true
  und : ∃ d, P.underlying t = some d ∧ tdOK P i.td d

def TabOK (P : Program) (tab : Tab) : Prop := ∀ t i, tab t = some i → TIOK P t i

section
variable {P : Program} {tab : Tab} {M : Mem} {ρ : Nat → Option Nat} {w : World}

theorem add_none (b off n : Nat) : (⟨b, off, none⟩ : Addr).add n = ⟨b, off + n, none⟩ := by
  unfold Addr.add
  split <;> simp_all

theorem run_isAgg {t : TypeId} {i : TI} (h : TIOK P t i) : (isAgg t).run P w = .ok i.td.agg w := by
  obtain ⟨d, hd, ho⟩ := h.und
  unfold isAgg
  simp only [Sem.run_bind, run_underlying hd, Result.andThen_ok]
  cases ht : i.td <;> rw [ht] at ho <;> cases d <;> simp_all [tdOK, TD.agg]

theorem run_sizeOf {t : TypeId} {i : TI} (h : TIOK P t i) : (sizeOf t).run P w = .ok i.size w := by
  obtain ⟨inf, z, h1, h2, _⟩ := h.info
  simp [sizeOf, typeInfo, h1, h2]

theorem Rp.oneCell' {x : PV} {v : Value} (h : Rp M x v) (hx : ∀ cs, x ≠ .agg cs) (hy : ∀ cs, x ≠ .tup cs) : v.oneCell' = true := by
  cases h with
  | lit v h => exact h
  | agg cs => exact absurd rfl (hx cs)
  | tup cs => exact absurd rfl (hy cs)
  | sl0 => rfl
  | sl => rfl
  | own0 => rfl
  | own => rfl

theorem run_load_some {a : Addr} {v : Value} (h : w.cell? a = some v) : (load a).run P w = .ok v w := by
  rw [run_load, h]

theorem allPV_some : ∀ {l : List AV} {r : List PV}, allPV l = some r → l = r.map .pv
  | [], r, h => by simp [allPV] at h; simp [← h]
  | .pv x :: l, r, h => by
    simp only [allPV, Option.map_eq_some_iff] at h
    obtain ⟨q, hq, rfl⟩ := h
    simp [allPV_some hq]
  | .bot :: _, _, h => by simp [allPV] at h
  | .undef :: _, _, h => by simp [allPV] at h
  | .box _ _ :: _, _, h => by simp [allPV] at h
  | .ro _ :: _, _, h => by simp [allPV] at h
  | .fn _ _ :: _, _, h => by simp [allPV] at h
  | .msl _ _ _ :: _, _, h => by simp [allPV] at h

theorem allPV_map : ∀ (l : List PV), allPV (l.map .pv) = some l
  | [] => rfl
  | x :: l => by simp [allPV, allPV_map l]

/-- The boxes of the state, as they lie in the world. -/
def BoxesOK (M : Mem) (ρ : Nat → Option Nat) (w : World) (bx : List (Nat × List AV)) : Prop :=
  ∀ i cs, lk i bx = some cs → ∃ b, ρ i = some b ∧ BoxAt M ρ w b cs

theorem getD_of_lt {vs : Array Value} {j : Nat} (h : j < vs.size) : vs[j]? = some (vs.getD j undef) := by
  simp [Array.getD, h]

theorem BoxAt.cell? {b : Nat} {cs : List AV} (h : BoxAt M ρ w b cs) {j : Nat} {c : AV} (hj : cs[j]? = some c) :
    ∃ v, w.cell? ⟨b, j, none⟩ = some v ∧ RpA M ρ c v ∧ v.oneCell' = true := by
  obtain ⟨vs, T, hh, hs, hc⟩ := h.at_
  have hlt : j < vs.size := by rw [hs]; exact (List.getElem?_eq_some_iff.1 hj).1
  refine ⟨vs.getD j undef, ?_, hc j c hj⟩
  simp only [World.cell?, hh]
  simpa using getD_of_lt hlt

theorem list_choose {α β : Type} (l : List α) (R : Nat → α → β → Prop) (h : ∀ (j : Nat) a, l[j]? = some a → ∃ b, R j a b) : ∃ r : List β, r.length = l.length ∧ ∀ (j : Nat) a b, l[j]? = some a → r[j]? = some b → R j a b := by
  induction l generalizing R with
  | nil => exact ⟨[], rfl, by simp⟩
  | cons x l ih =>
    obtain ⟨b, hb⟩ := h 0 x rfl
    obtain ⟨r, hr, hR⟩ := ih (fun j => R (j + 1)) (fun j a ha => h (j + 1) a (by simpa using ha))
    refine ⟨b :: r, by simp [hr], ?_⟩
    intro j a c ha hc
    cases j with
    | zero => simp at ha hc; subst ha; subst hc; exact hb
    | succ j => exact hR j a c (by simpa using ha) (by simpa using hc)

theorem run_loadAt (hA : Agree M w) {bx : List (Nat × List AV)} (hB : BoxesOK M ρ w bx) {t : TypeId} {i : TI} (ht : TIOK P t i) {p r : AV} {v : Value} (hp : RpA M ρ p v)
    (h : loadA i p bx = some r) : ∃ u, (Instr.loadAt t v).run P w = .ok u w ∧ RpA M ρ r u := by
  cases hp with
  | box k off b hk =>
    simp only [loadA] at h
    cases hl : lk k bx with
    | none => simp [hl] at h
    | some cs =>
      simp only [hl] at h
      obtain ⟨b', hb', hbox⟩ := hB k cs hl
      obtain rfl : b = b' := by rw [hk] at hb'; injection hb'
      by_cases hg : i.td.agg = true
      · simp only [hg, if_true] at h
        split at h
        · rename_i hle
          rw [Option.map_eq_some_iff] at h
          obtain ⟨l, hl', rfl⟩ := h
          have hl2 := allPV_some hl'
          have hlen : l.length = i.size := by
            have := congrArg List.length hl2
            simp at this
            omega
          obtain ⟨us, hus, hR⟩ := list_choose l (fun j x u => w.cell? ⟨b, off + j, none⟩ = some u ∧ Rp M x u ∧ u.oneCell' = true) (by
            intro j x hx
            have hx' : ((cs.drop off).take i.size)[j]? = some (.pv x) := by rw [hl2]; simp [hx]
            have hjlt : j < i.size := by rw [← hlen]; exact (List.getElem?_eq_some_iff.1 hx).1
            rw [List.getElem?_take_of_lt hjlt, List.getElem?_drop] at hx'
            obtain ⟨u, h1, h2, h3⟩ := hbox.cell? hx'
            cases h2 with
            | pv _ _ h2 => exact ⟨u, h1, h2, h3⟩)
          have hload := run_loadCells_list (P := P) w ⟨b, off, none⟩ us (by
            intro j u hu
            have hj : j < l.length := by rw [← hus]; exact (List.getElem?_eq_some_iff.1 hu).1
            rw [add_none]
            exact (hR j l[j] u (List.getElem?_eq_getElem hj) hu).1)
          refine ⟨.agg us.toArray, ?_, .pv _ _ (.agg l us hus ?_ ?_)⟩
          · rw [hus, hlen] at hload
            simp [Instr.loadAt, Instr.sureAddr, loadVar, run_isAgg ht, hg, run_sizeOf ht, hload]
          · intro u hu
            obtain ⟨j, hj, rfl⟩ := List.getElem_of_mem hu
            exact (hR j (l[j]'(by omega)) us[j] (List.getElem?_eq_getElem _) (List.getElem?_eq_getElem hj)).2.2
          · intro j c u hc hu
            exact (hR j c u hc hu).2.1
        · cases h
      · simp only [hg, Bool.false_eq_true, if_false] at h
        obtain ⟨u, h1, h2, h3⟩ := hbox.cell? h
        refine ⟨u, ?_, h2⟩
        simp [Instr.loadAt, Instr.sureAddr, loadVar, run_isAgg ht, hg, h1]
  | ro cs b off F hm hr =>
    simp only [loadA] at h
    by_cases hg : i.td.agg = true
    · simp only [hg, if_true] at h
      split at h
      · rename_i hle
        injection h with h
        subst h
        have hload := run_loadCells (P := P) w ⟨b, off, none⟩ i.size F (by
          intro j hj
          rw [add_none]
          exact hA.cell _ _ _ (hm j cs[j] (List.getElem?_eq_getElem (by omega))).1)
        refine ⟨.agg ((List.range i.size).map F).toArray, ?_, .pv _ _ (.agg _ _ (by simp; omega) ?_ ?_)⟩
        · simp [Instr.loadAt, Instr.sureAddr, loadVar, run_isAgg ht, hg, run_sizeOf ht, hload]
        · intro u hu
          simp only [List.mem_map, List.mem_range] at hu
          obtain ⟨j, hj, rfl⟩ := hu
          exact (hm j cs[j] (List.getElem?_eq_getElem (by omega))).2
        · intro j c u hc hu
          have hj : j < i.size := by
            have := (List.getElem?_eq_some_iff.1 hc).1
            simp at this; omega
          rw [List.getElem?_take_of_lt hj] at hc
          simp [hj] at hu
          subst hu
          exact hr j c hc
      · cases h
    · simp only [hg, Bool.false_eq_true, if_false, Option.map_eq_some_iff] at h
      obtain ⟨c, hc, rfl⟩ := h
      refine ⟨F 0, ?_, .pv _ _ (hr 0 c hc)⟩
      have h1 := hA.cell _ _ _ (hm 0 c hc).1
      simp only [Nat.add_zero] at h1
      simp [Instr.loadAt, Instr.sureAddr, loadVar, run_isAgg ht, hg, h1]
  | bot => simp [loadA] at h
  | undef => simp [loadA] at h
  | pv x v hx => simp [loadA] at h
  | fn => simp [loadA] at h
  | msl => simp [loadA] at h

end
end Go.Ax
