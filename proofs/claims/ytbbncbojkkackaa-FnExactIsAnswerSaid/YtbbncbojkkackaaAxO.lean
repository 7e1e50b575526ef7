/- The abstract layer, part 15: calls. -/
import Derived.Test.YtbbncbojkkackaaAxN
set_option linter.unusedSimpArgs false
namespace Go.Ax

theorem noBoxL_mem : ∀ {l : List AV}, AV.noBoxL l = true → ∀ x ∈ l, AV.noBox x = true
  | [], _, x, hx => by cases hx
  | y :: l, h, x, hx => by
    simp only [AV.noBoxL, Bool.and_eq_true] at h
    rcases List.mem_cons.1 hx with rfl | hx
    · exact h.1
    · exact noBoxL_mem h.2 x hx

theorem blksL_mem {xs : List PV} {b : Nat} (h : b ∈ PV.blksL xs) : ∃ x ∈ xs, b ∈ x.blks := by
  induction xs with
  | nil => simp [PV.blksL] at h
  | cons x xs ih =>
    simp only [PV.blksL, List.mem_append] at h
    rcases h with h | h
    · exact ⟨x, by simp, h⟩
    · obtain ⟨y, hy, hb⟩ := ih h; exact ⟨y, by simp [hy], hb⟩

theorem cells_blks {x : PV} {b : Nat} (h : b ∈ x.blks) : ∃ (j : Nat) (c : PV), x.cells[j]? = some c ∧ b ∈ c.blks := by
  cases x with
  | agg cs =>
    obtain ⟨c, hc, hb⟩ := blksL_mem (xs := cs) (by simpa [PV.blks] using h)
    obtain ⟨j, hj, rfl⟩ := List.getElem_of_mem hc
    exact ⟨j, cs[j], by simp [PV.cells, hj], hb⟩
  | lit v => exact ⟨0, _, rfl, h⟩
  | tup l => exact ⟨0, _, rfl, h⟩
  | sl sz es => exact ⟨0, _, rfl, h⟩
  | own s ob sz es => exact ⟨0, _, rfl, h⟩

theorem Rp.capBlks {M : Mem} {r : PV} {v : Value} (h : Rp M r v) : ∀ b ∈ r.blks, (M.cap b).isSome = true := by
  induction h with
  | lit => intro b hb; simp [PV.blks] at hb
  | agg cs vs hl h1 h ih =>
    intro b hb
    obtain ⟨c, hc, hb⟩ := blksL_mem (xs := cs) (by simpa [PV.blks] using hb)
    obtain ⟨j, hj, rfl⟩ := List.getElem_of_mem hc
    exact ih j cs[j] (vs[j]'(by omega)) (List.getElem?_eq_getElem _) (List.getElem?_eq_getElem _) b hb
  | tup cs vs hl h ih =>
    intro b hb
    obtain ⟨c, hc, hb⟩ := blksL_mem (xs := cs) (by simpa [PV.blks] using hb)
    obtain ⟨j, hj, rfl⟩ := List.getElem_of_mem hc
    exact ih j cs[j] (vs[j]'(by omega)) (List.getElem?_eq_getElem _) (List.getElem?_eq_getElem _) b hb
  | sl0 => intro b hb; simp [PV.blks, PV.blksL] at hb
  | own0 => intro b hb; simp [PV.blks, PV.blksL] at hb
  | sl sz es b0 off cap F hcap hz hm hr ih =>
    intro b hb
    obtain ⟨e, he, hb⟩ := blksL_mem (xs := es) (by simpa [PV.blks] using hb)
    obtain ⟨i, hi, rfl⟩ := List.getElem_of_mem he
    obtain ⟨j, c, hj, hb⟩ := cells_blks hb
    exact ih i j es[i] c (List.getElem?_eq_getElem hi) hj b hb
  | own s sz es b0 off cap F hcap hend hz hm hr ih =>
    intro b hb
    simp only [PV.blks, List.mem_append, List.mem_singleton] at hb
    rcases hb with rfl | hb
    · rw [hend]; rfl
    · obtain ⟨e, he, hb⟩ := blksL_mem (xs := es) hb
      obtain ⟨i, hi, rfl⟩ := List.getElem_of_mem he
      obtain ⟨j, c, hj, hb⟩ := cells_blks hb
      exact ih i j es[i] c (List.getElem?_eq_getElem hi) hj b hb

theorem RpA.noBox {M : Mem} {ρ ρ' : Nat → Option Nat} {x : AV} {v : Value} (h : RpA M ρ x v) (hx : AV.noBox x = true) : RpA M ρ' x v := by
  induction h with
  | bot v => exact .bot v
  | undef => exact .undef
  | pv x v h => exact .pv x v h
  | box => simp [AV.noBox] at hx
  | ro cs b off F hm hr => exact .ro cs b off F hm hr
  | fn f caps vs hl h ih =>
    refine .fn f caps vs hl fun i c v hc hv => ih i c v hc hv ?_
    simp only [AV.noBox] at hx
    exact noBoxL_mem hx c (List.mem_of_getElem? hc)
  | msl => simp [AV.noBox] at hx

section
variable {P : Program} {tab : Tab} {X : List Nat} {M0 : Mem} {w0 : World} {M : Mem} {ρ : Nat → Option Nat} {st : St} {a : Act} {w : World}

theorem Inv.addU (h : Inv X M0 w0 M ρ st a w) (S : Nat → Prop) (hS : ∀ b, S b → w0.heap.size ≤ b ∧ b < w.heap.size ∧ (M.cap b).isSome = true) : Inv X M0 w0 M ρ { st with U := fun b => st.U b ∨ S b } a w :=
  { h with U := fun b hb => hb.elim (h.U b) (hS b) }

/-- What comes back from a call is registered. -/
theorem Inv.reg (h : Inv X M0 w0 M ρ st a w) (d : Option Tmp) {r : PV} {n : Nat} (htip : TipOK M w r) (hcap : ∀ b ∈ r.blks, (M.cap b).isSome = true) (hfresh : ∀ b ∈ r.blks, w0.heap.size ≤ b ∧ n ≤ b ∧ b < w.heap.size) (hn : ∀ s b off hw, lk s st.tips = some (some (b, off), hw) → b < n) :
    Inv X M0 w0 M ρ { st with tips := regT d r st.tips, U := fun b => st.U b ∨ b ∈ r.blks } a w := by
  have hU := h.addU (fun b => b ∈ r.blks) (fun b hb => ⟨(hfresh b hb).1, (hfresh b hb).2.2, hcap b hb⟩)
  unfold regT
  split
  · rename_i d s ob sz es
    cases ob with
    | none => exact hU.noTip d _ _ (fun x hx => hx)
    | some p =>
      obtain ⟨b, off⟩ := p
      obtain ⟨⟨vs, T, m, h1, h2, h3⟩, h4⟩ := htip
      have hb := hfresh b (by simp [PV.blks])
      exact hU.addTip d h1 h2 h3 h4 hb.1 (fun s off' hw' hs => by have := hn s b off' hw' hs; omega) _ (fun x hx => .inl hx)
  · exact hU

theorem regP_ok {d : Option Tmp} {r : PV} {v : Value} (h : Rp M r v) : Rp M (regP d r) v := by
  unfold regP
  split
  · exact h.resite
  · exact h

theorem argsT_ok (h : Inv X M0 w0 M ρ st a w) {f : Operand} {args : Array Operand} {argTypes : Array TypeId} (hs : args.size = argTypes.size) :
    (argsT tab (evl st.tmps) { callee := .value f, args, argTypes }).length = args.size ∧
    ∀ (i : Nat) x, (argsT tab (evl st.tmps) { callee := .value f, args, argTypes })[i]? = some x → RpA M ρ x ((args.map a.eval).getD i undef) := by
  unfold argsT
  refine ⟨by simp [hs], ?_⟩
  intro i x hx
  simp only [List.getElem?_map, Option.map_eq_some_iff] at hx
  obtain ⟨p, hp, rfl⟩ := hx
  rw [List.getElem?_zip_eq_some] at hp
  have h1 : args[i]? = some p.1 := by simpa using hp.1
  have e1 : (args.map a.eval).getD i undef = a.eval p.1 := by simp [Array.getD_eq_getD_getElem?, h1]
  rw [e1]
  exact evT_ok h.evl (fun _ => rfl) _ _

/-- The call of a function value is the call of its function. -/
theorem run_call {f : Operand} {args : Array Operand} {argTypes : Array TypeId} {o : Oper} {g : FuncId} {caps : Array Value} (ho : o.op = .call { callee := .value f, args, argTypes }) (hf : a.eval f = .func (.func g) #[] caps) (hE : Enter P g) :
    (execOp a.eval o).run P w = .ok (.enter g (args.map a.eval ++ caps)) w := by
  obtain ⟨fn, h1, h2, h3⟩ := hE
  obtain ⟨dst, op, type, pos, after, guard⟩ := o
  simp only at ho
  subst ho
  have h2' : fn.body ≠ none := by intro e; rw [e] at h2; simp at h2
  have h3' : fn.name ≠ "runtime.NumGoroutine" := by simpa using h3
  simp [execOp, resolve, hf, Deferred.ofValue, invoke, callFunc, h1, h2', h3']

theorem args_append {vs caps' : Array Value} {xs caps : List AV} {R : AV → Value → Prop} (h1 : xs.length = vs.size) (h2 : ∀ (i : Nat) x, xs[i]? = some x → R x (vs.getD i undef)) (h3 : caps.length = caps'.size) (h4 : ∀ (i : Nat) x, caps[i]? = some x → R x (caps'.getD i undef)) :
    (vs ++ caps').size = (xs ++ caps).length ∧ ∀ (i : Nat) x, (xs ++ caps)[i]? = some x → R x ((vs ++ caps').getD i undef) := by
  refine ⟨by simp [h1, h3], ?_⟩
  intro i x hx
  by_cases hi : i < xs.length
  · rw [List.getElem?_append_left hi] at hx
    have e1 : (vs ++ caps').getD i undef = vs.getD i undef := by
      simp [Array.getD_eq_getD_getElem?, Array.getElem?_append_left (show i < vs.size by omega)]
    rw [e1]; exact h2 i x hx
  · rw [List.getElem?_append_right (by omega)] at hx
    have e1 : (vs ++ caps').getD i undef = caps'.getD (i - xs.length) undef := by
      simp [Array.getD_eq_getD_getElem?, Array.getElem?_append_right (show vs.size ≤ i by omega), h1]
    rw [e1]; exact h4 _ x hx

/-- A call without boxes. -/
theorem callK_sound (h : Inv X M0 w0 M ρ st a w) {f : Operand} {args : Array Operand} {argTypes : Array TypeId} {o : Oper} (ho : o.op = .call { callee := .value f, args, argTypes }) {K : AV → Tips → (Nat → Prop) → Prop} (hsz : args.size = argTypes.size)
    (hk : callK P (evl st.tmps f) (argsT tab (evl st.tmps) { callee := .value f, args, argTypes }) o.dst st.tips st.U K) :
    ∃ g vs, (execOp a.eval o).run P w = .ok (.enter g vs) w ∧ Calls P g vs w fun e w' => ∃ u M' tips' U' v, e = .returned u ∧ Inv X M0 w0 M' ρ { st with tips := tips', U := U' } a w' ∧ RpA M' ρ v u ∧ K v tips' U' := by
  unfold callK at hk
  split at hk
  · rename_i g caps hf
    obtain ⟨hnb, Q, hac, hk⟩ := hk
    have hfv := h.evl f
    rw [hf] at hfv
    generalize hv : a.eval f = fv at hfv
    cases hfv with
    | fn _ _ cvs hl hr =>
      obtain ⟨ha1, ha2⟩ := argsT_ok (tab := tab) h (f := f) hsz
      obtain ⟨hb1, hb2⟩ := args_append (vs := args.map a.eval) (caps' := cvs.toArray) (by simpa using ha1) ha2 (by simpa using hl.symm) (fun i x hx => by
        have hlt : i < cvs.length := by rw [hl]; exact (List.getElem?_eq_some_iff.1 hx).1
        have e1 : cvs.toArray.getD i undef = cvs[i] := by simp [Array.getD, hlt]
        rw [e1]; exact hr i x _ hx (List.getElem?_eq_getElem hlt))
      refine ⟨g, _, run_call ho hv hac.1, ?_⟩
      have hcall := hac.2 M [] w (args.map a.eval ++ cvs.toArray) h.agree ⟨rfl, List.nodup_nil, by simp⟩ hb1 (fun i x hx => (hb2 i x hx).noBox (noBoxL_mem hnb x (List.mem_of_getElem? hx)))
      refine hcall.mono ?_
      rintro e w' ⟨v, M', r, xs, p⟩
      have hg := h.grow p.le p.os p.tape p.output p.size (fun k hk' => p.frame k hk' (by simp)) p.agree p.old
      have hreg := hg.reg o.dst (n := w.heap.size) p.tip p.rp.capBlks (fun b hb => ⟨Nat.le_trans h.size (p.fresh b hb).1, p.fresh b hb⟩) (fun s b off hw hs => by
        obtain ⟨_, ⟨vs2, T2, n2, h2, _⟩, _⟩ := h.tips s b off hw hs
        exact (Array.getElem?_eq_some_iff.1 h2).1)
      exact ⟨v, M', _, _, _, p.ret, hreg, .pv _ _ (regP_ok p.rp), hk r xs p.q (fun b hb hu => by have := (p.fresh b hb).1; have := (h.U b hu).2.1; omega)⟩
  · exact hk.elim

end
end Go.Ax
