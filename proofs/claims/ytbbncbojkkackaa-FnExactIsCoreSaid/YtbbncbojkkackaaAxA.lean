/- The abstract layer, part 1: values, memory that is never written again, and what it is for a value to read as an abstract value. -/
import Derived.Orders
import Derived.Laws.Cells
import Derived.Laws.World
namespace Go.Ax

/-- Plain data: what a value reads as. A slice is the list of its elements; `own` is a slice that this call chain has made (in block and offset `ob`, registered at site `s`). -/
inductive PV where
  | lit (v : Value)
  | agg (cs : List PV)
  | tup (vs : List PV)
  | sl (sz : Nat) (es : List PV)
  | own (s : Nat) (ob : Option (Nat × Nat)) (sz : Nat) (es : List PV)
  deriving Inhabited

def PV.cells : PV → List PV
  | .agg cs => cs
  | x => [x]

structure Mem where
  cell : Nat → Nat → Option Value
  cap : Nat → Option Nat

structure Mem.Le (M M' : Mem) : Prop where
  cell : ∀ b o v, M.cell b o = some v → M'.cell b o = some v
  cap : ∀ b n, M.cap b = some n → M'.cap b = some n

theorem Mem.Le.refl (M : Mem) : M.Le M := ⟨fun _ _ _ h => h, fun _ _ h => h⟩
theorem Mem.Le.trans {A B C : Mem} (h : A.Le B) (k : B.Le C) : A.Le C :=
  ⟨fun b o v x => k.cell b o v (h.cell b o v x), fun b n x => k.cap b n (h.cap b n x)⟩

inductive Rp (M : Mem) : PV → Value → Prop where
  | lit (v : Value) (h : v.oneCell' = true) : Rp M (.lit v) v
  | agg (cs : List PV) (vs : List Value) (hl : vs.length = cs.length) (h1 : ∀ v ∈ vs, v.oneCell' = true)
      (h : ∀ (i : Nat) c v, cs[i]? = some c → vs[i]? = some v → Rp M c v) : Rp M (.agg cs) (.agg vs.toArray)
  | tup (cs : List PV) (vs : List Value) (hl : vs.length = cs.length)
      (h : ∀ (i : Nat) c v, cs[i]? = some c → vs[i]? = some v → Rp M c v) : Rp M (.tup cs) (.tuple vs.toArray)
  | sl0 (sz : Nat) (a : Option Addr) (cap : Nat) : Rp M (.sl sz []) (.slice a 0 cap)
  | sl (sz : Nat) (es : List PV) (b off cap : Nat) (F : Nat → Nat → Value) (hcap : es.length ≤ cap) (hz : ∀ e ∈ es, e.cells.length = sz)
      (hm : ∀ (i j : Nat) e c, es[i]? = some e → e.cells[j]? = some c → M.cell b (off + i * sz + j) = some (F i j) ∧ (F i j).oneCell' = true)
      (hr : ∀ (i j : Nat) e c, es[i]? = some e → e.cells[j]? = some c → Rp M c (F i j)) :
      Rp M (.sl sz es) (.slice (some ⟨b, off, none⟩) es.length cap)
  | own0 (s sz : Nat) (a : Option Addr) : Rp M (.own s none sz []) (.slice a 0 0)
  | own (s sz : Nat) (es : List PV) (b off cap : Nat) (F : Nat → Nat → Value) (hcap : es.length ≤ cap) (hend : M.cap b = some (off + cap * sz))
      (hz : ∀ e ∈ es, e.cells.length = sz)
      (hm : ∀ (i j : Nat) e c, es[i]? = some e → e.cells[j]? = some c → M.cell b (off + i * sz + j) = some (F i j) ∧ (F i j).oneCell' = true)
      (hr : ∀ (i j : Nat) e c, es[i]? = some e → e.cells[j]? = some c → Rp M c (F i j)) :
      Rp M (.own s (some (b, off)) sz es) (.slice (some ⟨b, off, none⟩) es.length cap)

theorem Rp.mono {M M' : Mem} (hM : M.Le M') {x : PV} {v : Value} (h : Rp M x v) : Rp M' x v := by
  induction h with
  | lit v h => exact .lit v h
  | agg cs vs hl h1 h ih => exact .agg cs vs hl h1 ih
  | tup cs vs hl h ih => exact .tup cs vs hl ih
  | sl0 sz a cap => exact .sl0 sz a cap
  | sl sz es b off cap F hcap hz hm hr ih =>
    exact .sl sz es b off cap F hcap hz (fun i j e c h1 h2 => ⟨hM.cell _ _ _ (hm i j e c h1 h2).1, (hm i j e c h1 h2).2⟩) ih
  | own0 s sz a => exact .own0 s sz a
  | own s sz es b off cap F hcap hend hz hm hr ih =>
    exact .own s sz es b off cap F hcap (hM.cap _ _ hend) hz (fun i j e c h1 h2 => ⟨hM.cell _ _ _ (hm i j e c h1 h2).1, (hm i j e c h1 h2).2⟩) ih

mutual
def PV.erase : PV → PV
  | .lit v => .lit v
  | .agg cs => .agg (PV.eraseL cs)
  | .tup vs => .tup (PV.eraseL vs)
  | .sl sz es => .sl sz (PV.eraseL es)
  | .own _ _ sz es => .sl sz (PV.eraseL es)
def PV.eraseL : List PV → List PV
  | [] => []
  | x :: xs => PV.erase x :: PV.eraseL xs
end

theorem PV.eraseL_eq (xs : List PV) : PV.eraseL xs = xs.map PV.erase := by
  induction xs with
  | nil => rfl
  | cons x xs ih => simp [PV.eraseL, ih]

theorem PV.cells_erase (x : PV) : x.erase.cells = x.cells.map PV.erase := by
  cases x <;> simp [PV.erase, PV.cells, PV.eraseL_eq]

mutual
/-- The blocks of the slices that are marked as made. -/
def PV.blks : PV → List Nat
  | .lit _ => []
  | .agg cs => PV.blksL cs
  | .tup vs => PV.blksL vs
  | .sl _ es => PV.blksL es
  | .own _ ob _ es => (match ob with | some (b, _) => [b] | none => []) ++ PV.blksL es
def PV.blksL : List PV → List Nat
  | [] => []
  | x :: xs => PV.blks x ++ PV.blksL xs
end

mutual
theorem PV.blks_erase : ∀ x : PV, x.erase.blks = []
  | .lit _ => rfl
  | .agg cs => PV.blksL_eraseL cs
  | .tup vs => PV.blksL_eraseL vs
  | .sl _ es => PV.blksL_eraseL es
  | .own _ _ _ es => PV.blksL_eraseL es
theorem PV.blksL_eraseL : ∀ xs : List PV, PV.blksL (PV.eraseL xs) = []
  | [] => rfl
  | x :: xs => by simp [PV.eraseL, PV.blksL, PV.blks_erase x, PV.blksL_eraseL xs]
end

mutual
theorem PV.erase_erase : ∀ x : PV, x.erase.erase = x.erase
  | .lit _ => rfl
  | .agg cs => by simp [PV.erase, PV.eraseL_eraseL cs]
  | .tup vs => by simp [PV.erase, PV.eraseL_eraseL vs]
  | .sl _ es => by simp [PV.erase, PV.eraseL_eraseL es]
  | .own _ _ _ es => by simp [PV.erase, PV.eraseL_eraseL es]
theorem PV.eraseL_eraseL : ∀ xs : List PV, PV.eraseL (PV.eraseL xs) = PV.eraseL xs
  | [] => rfl
  | x :: xs => by simp [PV.eraseL, PV.erase_erase x, PV.eraseL_eraseL xs]
end

theorem Rp.erase {M : Mem} {x : PV} {v : Value} (h : Rp M x v) : Rp M x.erase v := by
  have fold : ∀ (es : List PV) (sz b off : Nat) (F : Nat → Nat → Value),
      (∀ e ∈ es, e.cells.length = sz) →
      (∀ (i j : Nat) e c, es[i]? = some e → e.cells[j]? = some c → M.cell b (off + i * sz + j) = some (F i j) ∧ (F i j).oneCell' = true) →
      (∀ (i j : Nat) e c, es[i]? = some e → e.cells[j]? = some c → Rp M c.erase (F i j)) → ∀ cap, es.length ≤ cap →
      Rp M (.sl sz (PV.eraseL es)) (.slice (some ⟨b, off, none⟩) es.length cap) := by
    intro es sz b off F hz hm ih cap hcap
    have hlen : (PV.eraseL es).length = es.length := by simp [PV.eraseL_eq]
    rw [← hlen]
    refine .sl sz _ b off cap F (by omega) ?_ ?_ ?_
    · intro e he
      rw [PV.eraseL_eq, List.mem_map] at he
      obtain ⟨e', he', rfl⟩ := he
      rw [PV.cells_erase, List.length_map]; exact hz _ he'
    · intro i j e c h1 h2
      rw [PV.eraseL_eq, List.getElem?_map, Option.map_eq_some_iff] at h1
      obtain ⟨e', he', rfl⟩ := h1
      rw [PV.cells_erase, List.getElem?_map, Option.map_eq_some_iff] at h2
      obtain ⟨c', hc', rfl⟩ := h2
      exact hm i j e' c' he' hc'
    · intro i j e c h1 h2
      rw [PV.eraseL_eq, List.getElem?_map, Option.map_eq_some_iff] at h1
      obtain ⟨e', he', rfl⟩ := h1
      rw [PV.cells_erase, List.getElem?_map, Option.map_eq_some_iff] at h2
      obtain ⟨c', hc', rfl⟩ := h2
      exact ih i j e' c' he' hc'
  induction h with
  | lit v h => exact .lit v h
  | agg cs vs hl h1 h ih =>
    refine .agg _ vs (by simp [PV.eraseL_eq, hl]) h1 ?_
    intro i c v hc hv
    rw [PV.eraseL_eq, List.getElem?_map, Option.map_eq_some_iff] at hc
    obtain ⟨c', hc', rfl⟩ := hc
    exact ih i c' v hc' hv
  | tup cs vs hl h ih =>
    refine .tup _ vs (by simp [PV.eraseL_eq, hl]) ?_
    intro i c v hc hv
    rw [PV.eraseL_eq, List.getElem?_map, Option.map_eq_some_iff] at hc
    obtain ⟨c', hc', rfl⟩ := hc
    exact ih i c' v hc' hv
  | sl0 sz a cap => exact .sl0 sz a cap
  | sl sz es b off cap F hcap hz hm hr ih => exact fold es sz b off F hz hm ih cap hcap
  | own0 s sz a => exact .sl0 sz a 0
  | own s sz es b off cap F hcap hend hz hm hr ih => exact fold es sz b off F hz hm ih cap hcap

theorem Rp.toSl {M : Mem} {s sz : Nat} {ob : Option (Nat × Nat)} {es : List PV} {v : Value} (h : Rp M (.own s ob sz es) v) : Rp M (.sl sz es) v := by
  cases h with
  | own0 => exact .sl0 _ _ _
  | own _ _ _ b off cap F hcap hend hz hm hr => exact .sl sz es b off cap F hcap hz hm hr

theorem Rp.resite {M : Mem} {s s' sz : Nat} {ob : Option (Nat × Nat)} {es : List PV} {v : Value} (h : Rp M (.own s ob sz es) v) : Rp M (.own s' ob sz es) v := by
  cases h with
  | own0 => exact .own0 _ _ _
  | own _ _ _ b off cap F hcap hend hz hm hr => exact .own s' sz es b off cap F hcap hend hz hm hr

/-- Values that appear while code runs: data, pointers to boxes (a function's variables), pointers into memory that is not written again, functions. -/
inductive AV where
  | bot
  | undef
  | pv (x : PV)
  | box (i off : Nat)
  | ro (cs : List PV)
  | fn (f : FuncId) (caps : List AV)
  | msl (i sz len : Nat)
  deriving Inhabited

inductive RpA (M : Mem) (ρ : Nat → Option Nat) : AV → Value → Prop where
  | bot (v : Value) : RpA M ρ .bot v
  | undef : RpA M ρ .undef Go.undef
  | pv (x : PV) (v : Value) (h : Rp M x v) : RpA M ρ (.pv x) v
  | box (i off b : Nat) (h : ρ i = some b) : RpA M ρ (.box i off) (.pointer (some ⟨b, off, none⟩))
  | ro (cs : List PV) (b off : Nat) (F : Nat → Value) (hm : ∀ (j : Nat) c, cs[j]? = some c → M.cell b (off + j) = some (F j) ∧ (F j).oneCell' = true)
      (hr : ∀ (j : Nat) c, cs[j]? = some c → Rp M c (F j)) : RpA M ρ (.ro cs) (.pointer (some ⟨b, off, none⟩))
  | fn (f : FuncId) (caps : List AV) (vs : List Value) (hl : vs.length = caps.length)
      (h : ∀ (i : Nat) c v, caps[i]? = some c → vs[i]? = some v → RpA M ρ c v) : RpA M ρ (.fn f caps) (.func (.func f) #[] vs.toArray)
  | msl (i sz len b : Nat) (h : ρ i = some b) : RpA M ρ (.msl i sz len) (.slice (some ⟨b, 0, none⟩) len len)

theorem RpA.mono {M M' : Mem} {ρ ρ' : Nat → Option Nat} (hM : M.Le M') (hρ : ∀ i b, ρ i = some b → ρ' i = some b) {x : AV} {v : Value} (h : RpA M ρ x v) : RpA M' ρ' x v := by
  induction h with
  | bot v => exact .bot v
  | undef => exact .undef
  | pv x v h => exact .pv x v (h.mono hM)
  | box i off b h => exact .box i off b (hρ _ _ h)
  | ro cs b off F hm hr => exact .ro cs b off F (fun j c h => ⟨hM.cell _ _ _ (hm j c h).1, (hm j c h).2⟩) (fun j c h => (hr j c h).mono hM)
  | fn f caps vs hl h ih => exact .fn f caps vs hl ih
  | msl i sz len b h => exact .msl i sz len b (hρ _ _ h)

end Go.Ax
