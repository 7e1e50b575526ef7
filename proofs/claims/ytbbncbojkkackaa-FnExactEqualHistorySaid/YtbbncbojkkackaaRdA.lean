/- What a reading of data says of the values read: the parts that hold for every table of types. -/
import Derived.Test.YtbbncbojkkackaaAxU
import Derived.Test.YtbbncbojkkackaaAxRd
import Derived.Test.YtbbncbojkkackaaTxN
import Derived.Test.YtbbncbojkkackaaPuD
set_option linter.unusedVariables false
namespace Go.Tx
def Tg.ok (t : Tg) : Prop := t.name.size ≤ 9223372036854775807 ∧ t.ty.ok
def Ed.ok (t : Ed) : Prop := t.ex.ok ∧ t.path.length ≤ 9223372036854775807
def Ac.ok (t : Ac) : Prop := t.name.size ≤ 9223372036854775807 ∧ t.ty.ok
def Pl.ok (t : Pl) : Prop := t.ctx.length ≤ 9223372036854775807 ∧ (∀ x ∈ t.ctx, Tg.ok x) ∧ t.ty.ok
def Hi.ok (t : Hi) : Prop := t.path.length ≤ 9223372036854775807 ∧ t.place.ok
def Hc.ok (t : Hc) : Prop := t.ctx.length ≤ 9223372036854775807 ∧ ∀ x ∈ t.ctx, Tg.ok x
def Cl.ok (t : Cl) : Prop := t.env.length ≤ 9223372036854775807 ∧ ∀ x ∈ t.env, Bi.ok x
def Hy.ok (t : Hy) : Prop := t.past.length ≤ 9223372036854775807 ∧ (∀ x ∈ t.past, Ed.ok x) ∧ t.now.ok ∧ t.next.length ≤ 9223372036854775807 ∧ ∀ x ∈ t.next, Ed.ok x
def Rs.ok (t : Rs) : Prop := t.value.ok
end Go.Tx
namespace Go.Ax
open Go.ChangeShapes Go.WideShapes Go.ChangeAt Go.RowKit
theorem RpC.seg {M : Mem} {ps qs : List PV} {cs : List Value} {o s n : Nat} (h : RpC M ps ((cs.drop o).take s)) (k : RpC M qs (cs.drop n)) (e : o + s = n) : RpC M (ps ++ qs) (cs.drop o) := by
  subst e
  have := h.append k
  rw [← List.drop_drop, List.take_append_drop] at this
  exact this
theorem RpC.last {M : Mem} {cs : List Value} {n : Nat} (h : cs.length = n) : RpC M [] (cs.drop n) := by
  rw [List.drop_eq_nil_of_le (by omega)]
  exact .nil _
theorem RpC.fin {M : Mem} {ps : List PV} {cs : List Value} {o s n : Nat} (h : RpC M ps ((cs.drop o).take s)) (e : o + s = n) (hl : cs.length = n) : RpC M ps (cs.drop o) := by
  rw [List.take_of_length_le (by simp; omega)] at h
  exact h
variable {H : Type} {enc : TypeId × Value → H} {P : Program} {w : World} {spare : Nat → Bool} {held : Bool} {tab : Tab}
theorem rd_size (hT : TabOK P tab) {t : TypeId} {i : TI} (h : tab t = some i) : P.cellsOf t = i.size := by
  obtain ⟨inf, z, h1, h2, _⟩ := (hT t i h).info
  unfold Program.cellsOf
  rw [h1]
  simp [h2]
theorem rd_struct (hT : TabOK P tab) {t : TypeId} {sz b : Nat} {fs : List (Nat × TypeId)} {zs : List PV} {fuel : Nat} {cs : List Value} {x : DataW H × List MemPlace} (h : tab t = some ⟨sz, b, .struct fs, zs⟩) (hd : DataW.trod enc P w 0 spare held fuel t cs = some x) :
    ∃ n, fuel = n + 1 ∧ cs.length = sz ∧ ∀ p ∈ fs, ∃ y, DataW.trod enc P w 0 spare held n p.2 ((cs.drop p.1).take (P.cellsOf p.2)) = some y := by
  obtain ⟨d, h1, h2⟩ := (hT t _ h).und
  cases d <;> try exact h2.elim
  obtain ⟨ys, n, rfl, _, hl, hn, hf⟩ := DataW.trod_struct h1 hd
  refine ⟨n, rfl, hl.trans (rd_size hT h), fun p hp => ?_⟩
  simp only [tdOK] at h2
  rw [h2.1] at hp
  obtain ⟨f, hf1, rfl⟩ := List.mem_map.1 hp
  obtain ⟨i, hi, rfl⟩ := List.getElem_of_mem hf1
  have hi2 : i < ys.length := by rw [hn]; simpa using hi
  have := hf i _ (Array.getElem?_eq_getElem (by simpa using hi))
  rw [List.getElem?_eq_getElem hi2] at this
  exact ⟨_, this⟩
theorem rd_field (hT : TabOK P tab) {fs : List (Nat × TypeId)} {n : Nat} {cs : List Value} (hf : ∀ p ∈ fs, ∃ y : DataW H × List MemPlace, DataW.trod enc P w 0 spare held n p.2 ((cs.drop p.1).take (P.cellsOf p.2)) = some y) {ft : TypeId} {i : TI} (h : tab ft = some i) (o : Nat) (hp : (o, ft) ∈ fs) :
    ∃ y, DataW.trod enc P w 0 spare held n ft ((cs.drop o).take i.size) = some y := by
  have := hf _ hp
  rw [rd_size hT h] at this
  exact this
theorem rd_int (hT : TabOK P tab) {t : TypeId} {sz b : Nat} {k : IntKind} {zs : List PV} {fuel : Nat} {cs : List Value} {x : DataW H × List MemPlace} (h : tab t = some ⟨sz, b, .int k, zs⟩) (hd : DataW.trod enc P w 0 spare held fuel t cs = some x) :
    ∃ n, cs = [.int k n] ∧ RpC (memOf w) [.lit (.int k n)] cs := by
  obtain ⟨d, h1, h2⟩ := (hT t _ h).und
  cases d <;> try exact h2.elim
  simp only [tdOK] at h2
  subst h2
  obtain ⟨n, rfl, _⟩ := DataW.trod_int h1 hd
  exact ⟨n, rfl, .cons rfl (.lit _ rfl) (.nil _)⟩
theorem rd_bool (hT : TabOK P tab) {t : TypeId} {sz b : Nat} {zs : List PV} {fuel : Nat} {cs : List Value} {x : DataW H × List MemPlace} (h : tab t = some ⟨sz, b, .bool, zs⟩) (hd : DataW.trod enc P w 0 spare held fuel t cs = some x) :
    ∃ n, cs = [.bool n] ∧ RpC (memOf w) [.lit (.bool n)] cs := by
  obtain ⟨d, h1, h2⟩ := (hT t _ h).und
  cases d <;> try exact h2.elim
  obtain ⟨n, rfl, _⟩ := DataW.trod_bool h1 hd
  exact ⟨n, rfl, .cons rfl (.lit _ rfl) (.nil _)⟩
theorem rd_str (hT : TabOK P tab) {t : TypeId} {sz b : Nat} {zs : List PV} {fuel : Nat} {cs : List Value} {x : DataW H × List MemPlace} (h : tab t = some ⟨sz, b, .str, zs⟩) (hd : DataW.trod enc P w 0 spare held fuel t cs = some x) :
    ∃ s : ByteArray, s.size ≤ 9223372036854775807 ∧ cs = [.string s] ∧ RpC (memOf w) [.lit (.string s)] cs := by
  obtain ⟨d, h1, h2⟩ := (hT t _ h).und
  cases d <;> try exact h2.elim
  obtain ⟨s, rfl, _, hz⟩ := DataW.trod_string h1 hd
  exact ⟨s, hz, rfl, .cons rfl (.lit _ rfl) (.nil _)⟩
theorem rd_slice (hT : TabOK P tab) {T : Type} (av : T → PV) (good : T → Prop) {t e : TypeId} {sz sz' b : Nat} {zs : List PV} {ie : TI} {fuel : Nat} {cs : List Value} {x : DataW H × List MemPlace} (h : tab t = some ⟨sz', b, .slice e, zs⟩) (he : tab e = some ie) (hsz : 0 < sz) (hse : ie.size = sz) (hav : ∀ τ, (av τ).cells.length = sz)
    (hd : DataW.trod enc P w 0 spare held fuel t cs = some x)
    (hel : ∀ n cs x, fuel = n + 1 → DataW.trod enc P w 0 spare held n e cs = some x → ∃ τ, good τ ∧ RpC (memOf w) (av τ).cells cs) :
    ∃ l : List T, l.length ≤ 9223372036854775807 ∧ (∀ τ ∈ l, good τ) ∧ RpC (memOf w) [.sl sz (l.map av)] cs := by
  obtain ⟨d, h1, h2⟩ := (hT t _ h).und
  cases d <;> try exact h2.elim
  simp only [tdOK] at h2
  subst h2
  obtain ⟨l, s, rfl, g1, g2, g3, g4⟩ := read_slice av good hsz hav h1 ((rd_size hT he).trans hse) hd hel
  exact ⟨l, g2, g3, .cons g1 g4 (.nil _)⟩
/-- What is handed in as a struct. -/
theorem arg_obj (c : Nat) (x : Go.Tx.Dd c) {cs : List Value} {M : Mem} {ρ : Nat → Option Nat} (h : RpC M (Go.Tx.pvd c x).cells cs) : RpA M ρ (.pv (Go.Tx.TV.pv Go.Tx.UU (.agg (Go.Tx.UU.enc c x)))) (.agg cs.toArray) := by
  have : Go.Tx.TV.pv Go.Tx.UU (.agg (Go.Tx.UU.enc c x)) = .agg (Go.Tx.pvd c x).cells := by
    show PV.agg (Go.Tx.TV.pvL Go.Tx.UU (Go.Tx.encd c x)) = _
    rw [Go.Tx.UU_enc]
  rw [this]
  exact .pv _ _ h.agg
theorem arg_one {x : PV} {v : Value} {M : Mem} {ρ : Nat → Option Nat} (h : RpC M [x] [v]) : RpA M ρ (.pv x) v := .pv _ _ (h.2 0 x v rfl rfl).2
theorem arg_struct (hT : TabOK P tab) {r : Reach} {base : Nat} {v : Value} {d : DataW H} {p : List MemPlace} {t : TypeId} {sz b : Nat} {fs : List (Nat × TypeId)} {zs : List PV} (h : tab t = some ⟨sz, b, .struct fs, zs⟩) (hv : Value.okWide P w r base t v) (hd : DataW.Trod enc P w 0 (fun _ => true) true t v d p) :
    ∃ (cs : List Value) (fuel : Nat), v = .agg cs.toArray ∧ DataW.trod enc P w 0 (fun _ => true) true fuel t cs = some (d, p) := by
  obtain ⟨D, h1, h2⟩ := (hT t _ h).und
  cases D <;> try exact h2.elim
  obtain ⟨cs, rfl, _⟩ := okWide_struct h1 hv
  obtain ⟨fuel, hf⟩ := hd
  exact ⟨cs.toList, fuel, rfl, hf⟩
theorem arg_slice (hT : TabOK P tab) {r : Reach} {base : Nat} {v : Value} {d : DataW H} {p : List MemPlace} {t e : TypeId} {sz b : Nat} {zs : List PV} (h : tab t = some ⟨sz, b, .slice e, zs⟩) (hv : Value.okWide P w r base t v) (hd : DataW.Trod enc P w 0 (fun _ => true) true t v d p) :
    ∃ (fuel : Nat), DataW.trod enc P w 0 (fun _ => true) true fuel t [v] = some (d, p) := by
  obtain ⟨D, h1, h2⟩ := (hT t _ h).und
  cases D <;> try exact h2.elim
  obtain ⟨a, l, c, rfl⟩ := okWide_slice h1 hv
  obtain ⟨fuel, hf⟩ := hd
  exact ⟨fuel, hf⟩
end Go.Ax
