/- What a reading of a type, a typing, a place says of the values read. -/
import Derived.Test.YtikjhmifgedlbaaTg
import Derived.Test.YtikjhmifgedlbaaAxRd
import Derived.Test.YtikjhmifgedlbaaChecked
set_option linter.unusedVariables false
namespace Go.Proofs.Ytikjhmifgedlbaa
open Go.ChangeShapes Go.WideShapes Go.ChangeAt Go.RowKit Go.Ax

variable {H : Type} {enc : TypeId × Value → H} {w : World} {spare : Nat → Bool} {held : Bool}

theorem Ty.av_cells (t : Ty) : t.av.cells = Ty.fav t := by cases t; rfl
theorem Ty.fav_len (t : Ty) : (Ty.fav t).length = 2 := by cases t; rfl
theorem Ty.okL_of {xs : List Ty} (h : ∀ x ∈ xs, Ty.ok x) : Ty.okL xs := by
  induction xs with
  | nil => trivial
  | cons a r ih => exact ⟨h a (by simp), ih fun x hx => h x (by simp [hx])⟩

theorem fld {P : Program} {n : Nat} {fs : Array Field} {ys : List (DataW H × List MemPlace)} {cs : List Value} (hf : ys.length = fs.size ∧ ∀ (i : Nat) (f : Field), fs[i]? = some f → DataW.trod enc P w 0 spare held n f.type ((cs.drop f.offset).take (P.cellsOf f.type)) = ys[i]?)
    {i : Nat} {f : Field} (h : fs[i]? = some f) : ∃ y, DataW.trod enc P w 0 spare held n f.type ((cs.drop f.offset).take (P.cellsOf f.type)) = some y := by
  have hi : i < ys.length := by
    rw [hf.1]
    exact (Array.getElem?_eq_some_iff.1 h).1
  exact ⟨_, (hf.2 i f h).trans (List.getElem?_eq_getElem hi)⟩

theorem two {α : Type} {l : List α} (h : l.length = 2) : ∃ a b, l = [a, b] := by
  match l, h with
  | [a, b], _ => exact ⟨a, b, rfl⟩
theorem three {α : Type} {l : List α} (h : l.length = 3) : ∃ a b c, l = [a, b, c] := by
  match l, h with
  | [a, b, c], _ => exact ⟨a, b, c, rfl⟩
theorem four {α : Type} {l : List α} (h : l.length = 4) : ∃ a b c d, l = [a, b, c, d] := by
  match l, h with
  | [a, b, c, d], _ => exact ⟨a, b, c, d, rfl⟩
theorem drop_take (cs : List Value) (n : Nat) (h : cs.length = n) : (cs.take n) = cs := by
  rw [← h]; exact List.take_length

theorem read_ty : ∀ (fuel : Nat) (cs : List Value) x, DataW.trod enc Try.prog w 0 spare held fuel 28 cs = some x → ∃ t : Ty, t.ok ∧ RpC (memOf w) (Ty.fav t) cs := by
  intro fuel
  induction fuel using Nat.strongRecOn with
  | ind fuel ih =>
    intro cs x h
    obtain ⟨ys, n, rfl, _, hl, hf⟩ := DataW.trod_struct Try.underlying28 h
    have hl2 : cs.length = 2 := hl.trans (by kernel_rfl)
    obtain ⟨c0, c1, rfl⟩ := two hl2
    obtain ⟨y0, h0⟩ := fld hf (i := 0) rfl
    obtain ⟨y1, h1⟩ := fld hf (i := 1) rfl
    have e28 : Try.prog.cellsOf 28 = 2 := by kernel_rfl
    have h0 : DataW.trod enc Try.prog w 0 spare held n 3 (List.take (Try.prog.cellsOf 3) (List.drop 0 [c0, c1])) = some y0 := h0
    rw [show Try.prog.cellsOf 3 = 1 by kernel_rfl] at h0
    have h0 : DataW.trod enc Try.prog w 0 spare held n 3 [c0] = some y0 := h0
    have h1 : DataW.trod enc Try.prog w 0 spare held n 26 (List.take (Try.prog.cellsOf 26) (List.drop 1 [c0, c1])) = some y1 := h1
    rw [show Try.prog.cellsOf 26 = 1 by kernel_rfl] at h1
    have h1 : DataW.trod enc Try.prog w 0 spare held n 26 [c1] = some y1 := h1
    obtain ⟨k, hk, _, _⟩ := DataW.trod_int Try.underlying3 h0
    obtain ⟨l, s, hs, g1, g2, g3, g4⟩ := read_slice Ty.av Ty.ok (sz := 2) (by omega) (fun t => by rw [Ty.av_cells, Ty.fav_len]) Try.underlying26 e28 h1
      (fun m cs x hm hx => by
        obtain ⟨t, q1, q2⟩ := ih m (by omega) cs x hx
        exact ⟨t, q1, by rw [Ty.av_cells]; exact q2⟩)
    cases hk; cases hs
    exact ⟨.mk k l, ⟨g2, Ty.okL_of g3⟩, RpC.cons rfl (.lit _ rfl) (RpC.cons g1 (by rw [Ty.avL_eq]; exact g4) (RpC.nil _))⟩

theorem read_tg : ∀ (fuel : Nat) (cs : List Value) x, DataW.trod enc Try.prog w 0 spare held fuel 107 cs = some x → ∃ t : Tg, t.ok ∧ RpC (memOf w) t.av.cells cs := by
  intro fuel cs x h
  obtain ⟨ys, n, rfl, _, hl, hf⟩ := DataW.trod_struct Try.underlying107 h
  have hl2 : cs.length = 3 := hl.trans (by kernel_rfl)
  obtain ⟨y0, h0⟩ := fld hf (i := 0) rfl
  obtain ⟨y1, h1⟩ := fld hf (i := 1) rfl
  obtain ⟨c0, c1, c2, rfl⟩ := three hl2
  · skip
    have h0 : DataW.trod enc Try.prog w 0 spare held n 9 (List.take (Try.prog.cellsOf 9) (List.drop 0 [c0, c1, c2])) = some y0 := h0
    rw [show Try.prog.cellsOf 9 = 1 by kernel_rfl] at h0
    have h0 : DataW.trod enc Try.prog w 0 spare held n 9 [c0] = some y0 := h0
    have h1 : DataW.trod enc Try.prog w 0 spare held n 28 (List.take (Try.prog.cellsOf 28) (List.drop 1 [c0, c1, c2])) = some y1 := h1
    rw [show Try.prog.cellsOf 28 = 2 by kernel_rfl] at h1
    have h1 : DataW.trod enc Try.prog w 0 spare held n 28 [c1, c2] = some y1 := h1
    obtain ⟨s, hs, _, hz⟩ := DataW.trod_string Try.underlying9 h0
    obtain ⟨t, q1, q2⟩ := read_ty _ _ _ h1
    cases hs
    refine ⟨⟨s, t⟩, ⟨hz, q1⟩, ?_⟩
    show RpC _ (.lit (.string s) :: Ty.fav t) _
    exact RpC.cons rfl (.lit _ rfl) q2

theorem read_pl : ∀ (fuel : Nat) (cs : List Value) x, DataW.trod enc Try.prog w 0 spare held fuel 30 cs = some x → ∃ a : Pl, a.ok ∧ RpC (memOf w) a.av.cells cs := by
  intro fuel cs x h
  obtain ⟨ys, n, rfl, _, hl, hf⟩ := DataW.trod_struct Try.underlying30 h
  have hl2 : cs.length = 4 := hl.trans (by kernel_rfl)
  obtain ⟨y0, h0⟩ := fld hf (i := 0) rfl
  obtain ⟨y1, h1⟩ := fld hf (i := 1) rfl
  obtain ⟨y2, h2⟩ := fld hf (i := 2) rfl
  obtain ⟨c0, c1, c2, c3, rfl⟩ := four hl2
  · have e107 : Try.prog.cellsOf 107 = 3 := by kernel_rfl
    have h0 : DataW.trod enc Try.prog w 0 spare held n 25 (List.take (Try.prog.cellsOf 25) (List.drop 0 [c0, c1, c2, c3])) = some y0 := h0
    rw [show Try.prog.cellsOf 25 = 1 by kernel_rfl] at h0
    have h0 : DataW.trod enc Try.prog w 0 spare held n 25 [c0] = some y0 := h0
    have h1 : DataW.trod enc Try.prog w 0 spare held n 4 (List.take (Try.prog.cellsOf 4) (List.drop 1 [c0, c1, c2, c3])) = some y1 := h1
    rw [show Try.prog.cellsOf 4 = 1 by kernel_rfl] at h1
    have h1 : DataW.trod enc Try.prog w 0 spare held n 4 [c1] = some y1 := h1
    have h2 : DataW.trod enc Try.prog w 0 spare held n 28 (List.take (Try.prog.cellsOf 28) (List.drop 2 [c0, c1, c2, c3])) = some y2 := h2
    rw [show Try.prog.cellsOf 28 = 2 by kernel_rfl] at h2
    have h2 : DataW.trod enc Try.prog w 0 spare held n 28 [c2, c3] = some y2 := h2
    obtain ⟨l, s, hs, g1, g2, g3, g4⟩ := read_slice Tg.av Tg.ok (sz := 3) (by omega) (fun t => (Tg.cells t).1) Try.underlying25 e107 h0 (fun m cs x hm hx => read_tg m cs x hx)
    obtain ⟨b, hb, _⟩ := DataW.trod_bool Try.underlying4 h1
    obtain ⟨t, q1, q2⟩ := read_ty _ _ _ h2
    cases hs; cases hb
    refine ⟨⟨l, b, t⟩, ⟨g2, g3, q1⟩, ?_⟩
    show RpC _ (.sl 3 (l.map Tg.av) :: .lit (.bool b) :: Ty.fav t) _
    exact RpC.cons g1 g4 (RpC.cons rfl (.lit _ rfl) q2)
end Go.Proofs.Ytikjhmifgedlbaa
