/- Typed execution, part 2: when a typed state stands for an abstract one. -/
import Derived.Test.YtbbncbojkkackaaTxA
set_option linter.unusedVariables false
set_option linter.unusedSimpArgs false
namespace Go.Tx
open Go.Ax

def TV.flat {D : Nat → Type} : TV D → Bool
  | .int .. | .bool .. | .str .. | .lit .. | .sl .. => true
  | _ => false

structure Uni.Ok (U : Uni) : Prop where
  erase : ∀ c x, (U.pv c x).erase = U.pv c x
  enc : ∀ c x, TV.pvL U (U.enc c x) = (U.pv c x).cells
  flat : ∀ c x, ∀ v ∈ U.enc c x, v.flat = true
  dec : ∀ c cs x, U.dec c cs = some x → TV.pvL U cs = (U.pv c x).cells
  sz : ∀ c x, (U.pv c x).cells.length = U.sz c
  st1 : ∀ c x, U.st c = true → U.pv c x = .agg (U.pv c x).cells
  st0 : ∀ c x, U.st c = false → (U.pv c x).cells = [U.pv c x]
  stsz : ∀ c, U.st c = true ↔ U.sz c ≠ 1

section
variable {U : Uni}

theorem pvL_eq (l : List (TV U.D)) : TV.pvL U l = l.map (TV.pv U) := by
  induction l with
  | nil => rfl
  | cons x r ih => simp [TV.pvL, ih]

theorem lkT_eq {α : Type} (k : Nat) (l : List (Nat × α)) : lkT k l = lk k l := by
  induction l with
  | nil => rfl
  | cons p r ih =>
    obtain ⟨j, x⟩ := p
    simp only [lkT, lk]
    by_cases h : k = j
    · subst h; simp
    · have : Nat.beq k j = false := by
        cases hb : Nat.beq k j
        · rfl
        · exact absurd (Nat.eq_of_beq_eq_true hb) h
      rw [this, if_neg h]
      exact ih

theorem beqN {a b : Nat} : Nat.beq a b = true ↔ a = b := ⟨Nat.eq_of_beq_eq_true, fun h => by subst h; exact Nat.beq_refl a⟩
theorem beqN_false {a b : Nat} : Nat.beq a b = false ↔ a ≠ b := by
  rw [← Bool.not_eq_true, beqN]

theorem atL_eq {α : Type} : ∀ (l : List α) (n : Nat), atL l n = l[n]?
  | [], _ => by simp [atL]
  | _ :: _, 0 => by simp [atL]
  | _ :: r, n + 1 => by simp [atL, atL_eq r n]

theorem castL_some {D : Nat → Type} {c c' : Nat} {xs : List (D c)} {ys : List (D c')} (h : castL c c' xs = some ys) : ∃ e : c = c', ys = e ▸ xs := by
  unfold castL at h
  split at h
  · rename_i e
    injection h with h
    exact ⟨e, h.symm⟩
  · cases h

inductive RV (U : Uni) (caps : List (Nat × Nat)) (tips : Tips) (ctr : Nat) : TV U.D → PV → Prop
  | flat (v : TV U.D) (y : PV) (hf : v.flat = true) (h : y.erase = TV.pv U v) : RV U caps tips ctr v y
  | own (s ver c : Nat) (xs : List (U.D c)) (y : PV) (hv : ver < ctr) (h : y.erase = .sl (U.sz c) (xs.map (U.pv c)))
      (ht : tokOK s ver caps = true → ∃ ob es, y = .own s ob (U.sz c) es ∧ (s = 0 → ob = none) ∧ (s ≠ 0 → ob = none ∨ lk s tips = some (ob, es.length * U.sz c))) :
      RV U caps tips ctr (.own s ver c xs) y
  | agg (cs : List (TV U.D)) (ys : List PV) (hl : ys.length = cs.length) (h : ∀ (i : Nat) c y, cs[i]? = some c → ys[i]? = some y → RV U caps tips ctr c y) :
      RV U caps tips ctr (.agg cs) (.agg ys)
  | tup (cs : List (TV U.D)) (ys : List PV) (hl : ys.length = cs.length) (h : ∀ (i : Nat) c y, cs[i]? = some c → ys[i]? = some y → RV U caps tips ctr c y) :
      RV U caps tips ctr (.tup cs) (.tup ys)

theorem map_eq_of {α β γ : Type} {f : α → γ} {g : β → γ} {xs : List α} {ys : List β} (hl : ys.length = xs.length) (h : ∀ (i : Nat) x y, xs[i]? = some x → ys[i]? = some y → g y = f x) : ys.map g = xs.map f := by
  apply List.ext_getElem?
  intro i
  rw [List.getElem?_map, List.getElem?_map]
  cases hx : xs[i]? with
  | none =>
    have : ys[i]? = none := by
      rw [List.getElem?_eq_none_iff] at hx ⊢; omega
    rw [this]; rfl
  | some x =>
    have hi := (List.getElem?_eq_some_iff.1 hx).1
    have hy : ys[i]? = some (ys[i]'(by omega)) := List.getElem?_eq_getElem (by omega)
    rw [hy]
    simp [h i x _ hx hy]

theorem RV.erase {caps tips ctr} {v : TV U.D} {y : PV} (h : RV U caps tips ctr v y) : y.erase = TV.pv U v := by
  induction h with
  | flat v y hf h => exact h
  | own s ver c xs y hv h ht => simpa [TV.pv] using h
  | agg cs ys hl h ih => simp only [PV.erase, TV.pv, PV.eraseL_eq, pvL_eq]; congr 1; exact map_eq_of hl ih
  | tup cs ys hl h ih => simp only [PV.erase, TV.pv, PV.eraseL_eq, pvL_eq]; congr 1; exact map_eq_of hl ih

theorem erase_lit {y : PV} {v : Value} (h : y.erase = .lit v) : y = .lit v := by
  cases y <;> simp [PV.erase] at h
  rw [h]

theorem erase_sl {y : PV} {sz : Nat} {l : List PV} (h : y.erase = .sl sz l) : ∃ es, y.elems = some (sz, es) ∧ PV.eraseL es = l := by
  cases y <;> simp [PV.erase] at h
  · exact ⟨_, by simp [PV.elems, h.1], h.2⟩
  · exact ⟨_, by simp [PV.elems, h.1], h.2⟩

theorem erase_agg {y : PV} {l : List PV} (h : y.erase = .agg l) : ∃ ys, y = .agg ys ∧ PV.eraseL ys = l := by
  cases y <;> simp [PV.erase] at h
  exact ⟨_, rfl, h⟩

/-- Marks: what else is known may be less. -/
def CapLe (caps caps' : List (Nat × Nat)) (tips tips' : Tips) (ctr : Nat) : Prop :=
  ∀ s ver, ver < ctr → tokOK s ver caps' = true → s ≠ 0 → tokOK s ver caps = true ∧ lk s tips' = lk s tips

theorem RV.weak {caps caps' tips tips' ctr ctr'} (hc : CapLe caps caps' tips tips' ctr) (hctr : ctr ≤ ctr') {v : TV U.D} {y : PV} (h : RV U caps tips ctr v y) : RV U caps' tips' ctr' v y := by
  induction h with
  | flat v y hf h => exact .flat v y hf h
  | own s ver c xs y hv h ht =>
    refine .own s ver c xs y (by omega) h fun hk => ?_
    by_cases hs : s = 0
    · subst hs
      obtain ⟨ob, es, h1, h2, h3⟩ := ht (by simp [tokOK])
      exact ⟨ob, es, h1, h2, fun h => absurd rfl h⟩
    · obtain ⟨q1, q2⟩ := hc s ver hv hk hs
      obtain ⟨ob, es, h1, h2, h3⟩ := ht q1
      exact ⟨ob, es, h1, h2, fun h => by rw [q2]; exact h3 h⟩
  | agg cs ys hl h ih => exact .agg cs ys hl ih
  | tup cs ys hl h ih => exact .tup cs ys hl ih

inductive RA (U : Uni) (caps : List (Nat × Nat)) (tips : Tips) (ctr : Nat) : TA U.D → AV → Prop
  | bot (y : AV) : RA U caps tips ctr .bot y
  | undef : RA U caps tips ctr .undef .undef
  | v (x : TV U.D) (y : PV) (h : RV U caps tips ctr x y) : RA U caps tips ctr (.v x) (.pv y)
  | box (i off : Nat) : RA U caps tips ctr (.box i off) (.box i off)
  | ro (cs : List (TV U.D)) (ys : List PV) (hl : ys.length = cs.length) (h : ∀ (i : Nat) c y, cs[i]? = some c → ys[i]? = some y → RV U caps tips ctr c y) : RA U caps tips ctr (.ro cs) (.ro ys)
  | fn (f : FuncId) (cs : List (TA U.D)) (ys : List AV) (hl : ys.length = cs.length) (h : ∀ (i : Nat) c y, cs[i]? = some c → ys[i]? = some y → RA U caps tips ctr c y) : RA U caps tips ctr (.fn f cs) (.fn f ys)
  | msl (i c : Nat) (n : Int) : RA U caps tips ctr (.msl i c n) (.msl i (U.sz c) n.toNat)
  | elt (i c : Nat) (n : Int) (hn : 0 ≤ n) : RA U caps tips ctr (.elt i c n) (.box i (n.toNat * U.sz c))

theorem RA.weak {caps caps' tips tips' ctr ctr'} (hc : CapLe caps caps' tips tips' ctr) (hctr : ctr ≤ ctr') {v : TA U.D} {y : AV} (h : RA U caps tips ctr v y) : RA U caps' tips' ctr' v y := by
  induction h with
  | bot y => exact .bot y
  | undef => exact .undef
  | v x y h => exact .v x y (h.weak hc hctr)
  | box i off => exact .box i off
  | ro cs ys hl h => exact .ro cs ys hl fun i c y h1 h2 => (h i c y h1 h2).weak hc hctr
  | fn f cs ys hl h ih => exact .fn f cs ys hl ih
  | msl i c n => exact .msl i c n
  | elt i c n hn => exact .elt i c n hn

/-- The boolean that a temporary holds. -/
def boolAt (st : St) (t : Nat) : Option Bool :=
  match st.tmps[t]? with
  | some (.pv (.lit (.bool b))) => some b
  | _ => none

inductive RM (U : Uni) (caps : List (Nat × Nat)) (tips : Tips) (ctr : Nat) (B : Nat → Option Bool) : TM U.D → AV → Prop
  | p (a : TA U.D) (y : AV) (h : RA U caps tips ctr a y) : RM U caps tips ctr B (.p a) y
  | may (t : Nat) (w g : Bool) (a : TA U.D) (y : AV) (h1 : g = true → RA U caps tips ctr a y) (h2 : g = false → y = .undef) (h3 : g = true ↔ B t = some w) : RM U caps tips ctr B (.may t w g a) y

inductive RB (U : Uni) (caps : List (Nat × Nat)) (tips : Tips) (ctr : Nat) : BC U.D → List AV → Prop
  | cells (cs : List (TA U.D)) (ys : List AV) (hl : ys.length = cs.length) (h : ∀ (i : Nat) c y, cs[i]? = some c → ys[i]? = some y → RA U caps tips ctr c y) : RB U caps tips ctr (.cells cs) ys
  | arr (c : Nat) (xs : List (U.D c)) (es : List PV) (h : PV.eraseL es = xs.map (U.pv c)) : RB U caps tips ctr (.arr c xs) ((es.flatMap PV.cells).map .pv)

theorem RB.weak {caps caps' tips tips' ctr ctr'} (hc : CapLe caps caps' tips tips' ctr) (hctr : ctr ≤ ctr') {v : BC U.D} {y : List AV} (h : RB U caps tips ctr v y) : RB U caps' tips' ctr' v y := by
  cases h with
  | cells cs _ hl h => exact .cells cs _ hl fun i c y h1 h2 => (h i c y h1 h2).weak hc hctr
  | arr c xs es h => exact .arr c xs es h

/-- A typed state stands for an abstract one. -/
structure Rel (U : Uni) (s : TS U.D) (st : St) : Prop where
  len : st.tmps.length = s.tmps.length
  tmps : ∀ (i : Nat) x y, s.tmps[i]? = some x → st.tmps[i]? = some y → RM U s.caps st.tips s.ctr (boolAt st) x y
  boxes : ∀ i bc, lk i s.boxes = some bc → ∃ cs, lk i st.boxes = some cs ∧ RB U s.caps st.tips s.ctr bc cs
  dom : ∀ i, lk i s.boxes = none → lk i st.boxes = none
  caps : ∀ i ver, lk i s.caps = some ver → ver < s.ctr
  ctr : 0 < s.ctr

/-- The type tables say the same. -/
def tkOK (U : Uni) (tab : Tab) : TK → TD → Prop
  | .str, .str => True
  | .bool, .bool => True
  | .int k, .int k' => k = k'
  | .slice c b, .slice e => ∃ j, tab e = some j ∧ j.size = U.sz c ∧ j.bytes = b ∧ 0 < U.sz c ∧ PV.eraseL j.zero = (U.pv c (U.dflt c)).cells
  | .struct fs, .struct fs' => fs = fs'
  | .fn, .fn => True
  | .ptr, .ptr => True
  | _, _ => False

inductive ZV (U : Uni) : TV U.D → PV → Prop
  | flat (v : TV U.D) (y : PV) (hf : v.flat = true) (h : y.erase = TV.pv U v) : ZV U v y
  | own (c : Nat) : ZV U (.own 0 0 c []) (.own 0 none (U.sz c) [])

structure TTOK (U : Uni) (tab : Tab) (tt : TTab U.D) : Prop where
  row : ∀ t i, tt t = some i → ∃ j, tab t = some j ∧ j.size = i.size ∧ tkOK U tab i.k j.td ∧ j.zero.length = i.zero.length ∧ i.zero.length = i.size ∧
    ∀ (n : Nat) x y, i.zero[n]? = some x → j.zero[n]? = some y → ZV U x y

theorem ZV.rv {caps tips ctr} (hctr : 0 < ctr) {x : TV U.D} {y : PV} (h : ZV U x y) : RV U caps tips ctr x y := by
  cases h with
  | flat _ _ hf h => exact .flat x y hf h
  | own c => exact .own 0 0 c [] _ hctr (by simp [PV.erase, PV.eraseL]) fun _ => ⟨none, [], rfl, fun _ => rfl, fun h => absurd rfl h⟩

end
end Go.Tx
