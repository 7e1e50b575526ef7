/- The abstract layer, part 11: boxes are made and turned. -/
import Derived.Test.YtbbncbojkkackaaAxJ
set_option linter.unusedSimpArgs false
namespace Go.Ax
section
variable {P : Program} {tab : Tab} {X : List Nat} {M0 : Mem} {w0 : World} {M : Mem} {ρ : Nat → Option Nat} {st : St} {a : Act} {w : World}

/-- What an operation comes to: a value that reads as v, in a world that fits the state st'. -/
def Comes1 (P : Program) (X : List Nat) (M0 : Mem) (w0 : World) (o : Oper) (a : Act) (w : World) (st' : St) (v : AV) : Prop :=
  ∃ u w' M' ρ', (execOp a.eval o).run P w = .ok (.value u) w' ∧ Inv X M0 w0 M' ρ' st' a w' ∧ RpA M' ρ' v u

theorem boxCells_ok {x : AV} {v : Value} {cs : List AV} (hx : RpA M ρ x v) (h : boxCells x = some cs) : v.cells.size = cs.length ∧ ∀ (j : Nat) c, cs[j]? = some c → RpA M ρ c (v.cells.getD j undef) ∧ (v.cells.getD j undef).oneCell' = true := by
  have one : ∀ {x : AV} {v : Value}, RpA M ρ x v → v.oneCell' = true → v.cells = #[v] → v.cells.size = [x].length ∧ ∀ (j : Nat) c, [x][j]? = some c → RpA M ρ c (v.cells.getD j undef) ∧ (v.cells.getD j undef).oneCell' = true := by
    intro x v h h1 h3
    rw [h3]
    refine ⟨rfl, ?_⟩
    intro j c hj
    cases j with
    | zero => simp at hj; subst hj; exact ⟨h, h1⟩
    | succ j => simp at hj
  unfold boxCells at h
  split at h
  · injection h with h; subst h
    cases hx with
    | pv _ _ hx =>
      obtain ⟨h1, h2⟩ := hx.cellsOf (by intro l e; cases e)
      refine ⟨by simpa [PV.cells] using h1, ?_⟩
      intro j c hj
      rw [List.getElem?_map, Option.map_eq_some_iff] at hj
      obtain ⟨c', hc', rfl⟩ := hj
      exact ⟨.pv _ _ (h2 j c' hc').1, (h2 j c' hc').2⟩
  · cases h
  · cases h
  · cases h
  · rename_i h1 h2 h3 h4
    injection h with h; subst h
    cases hx with
    | bot => exact absurd rfl h3
    | undef => exact absurd rfl h4
    | pv x v hx =>
      have h5 := hx.oneCell' (fun cs e => h1 cs (by rw [e])) (fun cs e => h2 cs (by rw [e]))
      exact one (.pv _ _ hx) h5 (by cases hx <;> simp_all [Value.cells, Value.oneCell'] <;> (cases v <;> simp_all [Value.cells, Value.oneCell']))
    | box i off b hb => exact one (.box _ _ _ hb) rfl rfl
    | ro cs b off F hm hr => exact one (.ro cs b off F hm hr) rfl rfl
    | fn f caps vs hl hr => exact one (.fn f caps vs hl hr) rfl rfl
    | msl i sz len b hb => exact one (.msl _ _ _ _ hb) rfl rfl

theorem beff_sound (hT : TabOK P tab) (h : Inv X M0 w0 M ρ st a w) {o : Oper} (hcls : ∀ t x y, o.op ≠ .store t x y) {K : St → Prop} (hk : beff tab o st K) :
    ∃ st' v, Comes1 P X M0 w0 o a w st' v ∧ st'.tmps = st.tmps ∧ K (st'.put o.dst v) := by
  obtain ⟨dst, op, type, pos, after, guard⟩ := o
  unfold beff at hk
  simp only at hk hcls
  split at hk
  · rename_i t d
    split at hk
    · rename_i i ht
      obtain ⟨hd, hk⟩ := hk
      obtain ⟨inf, z, hi, _, _, hz, hzl, _, hzc⟩ := (hT t i ht).info
      refine ⟨_, _, ⟨.pointer (some ⟨w.heap.size, 0, none⟩), _, M, _, ?_, h.newBox (T := t) (vs := z.cells) (cs := i.zero.map .pv) hd (by simpa using hzl) ?_, .box _ _ _ (by simp [updρ])⟩, rfl, hk⟩
      · simp [execOp, Instr.alloc, zeroValue, typeInfo, hi, hz, newVar, newRow]
      · intro j c hj
        rw [List.getElem?_map, Option.map_eq_some_iff] at hj
        obtain ⟨c', hc', rfl⟩ := hj
        exact ⟨.pv _ _ (hzc M j c' hc').1, (hzc M j c' hc').2⟩
    · exact hk.elim
  · rename_i t x d
    split at hk
    · rename_i cs hcs
      obtain ⟨hd, hk⟩ := hk
      obtain ⟨h1, h2⟩ := boxCells_ok (evT_ok h.evl (fun _ => rfl) t x) hcs
      refine ⟨_, _, ⟨.pointer (some ⟨w.heap.size, 0, none⟩), _, M, _, ?_, h.newBox (T := t) hd h1 h2, .box _ _ _ (by simp [updρ])⟩, rfl, hk⟩
      simp [execOp, Instr.box, newVar, newRow]
    · exact hk.elim
  · exact absurd rfl (hcls _ _ _)
  · rename_i t l c d
    split at hk
    · rename_i s1 s2 el z k n k' m ht hl hc
      split at hk
      · rename_i j hj
        obtain ⟨rfl, h0, hb, hn, hsz, hzl, hd, hk⟩ := hk
        obtain ⟨ds, hds, hok⟩ := (hT t _ ht).und
        cases ds <;> simp only [tdOK] at hok
        subst hok
        obtain ⟨inf, zv, hi, hi1, hi2, hz, hzl', _, hzc⟩ := (hT el j hj).info
        have e1 := h.evl l; rw [hl] at e1; have e1 := e1.lit_inv
        have e2 := h.evl c; rw [hc] at e2; have e2 := e2.lit_inv
        have hrun := run_make (P := P) w t el inf zv hds hi hz k k' n n h0 (Int.le_refl _) (by rw [hi2, Int.mul_comm]; omega) (by omega)
        have hsize : (madeCells zv.cells (n.toNat * inf.size)).size = ((List.replicate n.toNat (j.zero.map AV.pv)).flatten).length := by
          rw [size_madeCells]
          simp [hi1, hzl]
        refine ⟨_, _, ⟨.slice (some ⟨w.heap.size, 0, none⟩) n.toNat n.toNat, _, M, _, ?_, h.newBox (T := el) (vs := madeCells zv.cells (n.toNat * inf.size)) hd hsize ?_, .msl _ _ _ _ (by simp [updρ])⟩, rfl, hk⟩
        · simp [execOp, e1, e2, hrun]
        · intro q x hq
          have hql : q < n.toNat * j.size := by
            have := (List.getElem?_eq_some_iff.1 hq).1
            simpa [hzl] using this
          have hq2 : ((List.replicate n.toNat (j.zero.map AV.pv)).flatten)[q]? = (j.zero.map AV.pv)[q % j.size]? := by
            have gen : ∀ (n : Nat) (L : List AV) (q : Nat), 0 < L.length → q < n * L.length → ((List.replicate n L).flatten)[q]? = L[q % L.length]? := by
              intro n L
              induction n with
              | zero => intro q _ hq; simp at hq
              | succ n ih =>
                intro q hL hq
                rw [List.replicate_succ, List.flatten_cons]
                by_cases hlt : q < L.length
                · rw [List.getElem?_append_left hlt, Nat.mod_eq_of_lt hlt]
                · rw [List.getElem?_append_right (by omega), ih (q - L.length) hL (by rw [Nat.add_mul] at hq; omega)]
                  congr 1
                  rw [Nat.mod_eq_sub_mod (show q ≥ L.length by omega)]
            have := gen n.toNat (j.zero.map AV.pv) q (by simp [hzl, hsz]) (by simpa [hzl] using hql)
            simpa [hzl] using this
          rw [hq2, List.getElem?_map, Option.map_eq_some_iff] at hq
          obtain ⟨c', hc', rfl⟩ := hq
          have hlt2 : q % j.size < zv.cells.size := by rw [hzl', hzl]; exact Nat.mod_lt _ hsz
          have e3 : (madeCells zv.cells (n.toNat * inf.size)).getD q undef = zv.cells.getD (q % j.size) undef := by
            have hzs : zv.cells.size = j.size := by rw [hzl', hzl]
            simp [madeCells, hi1, hql, Array.getD_eq_getD_getElem?, hzs]
            rw [getElem!_pos _ _ (by rw [hzs]; exact Nat.mod_lt _ hsz), Array.getElem?_eq_getElem (by rw [hzs]; exact Nat.mod_lt _ hsz)]
            simp
          rw [e3]
          exact ⟨.pv _ _ (hzc M _ c' hc').1, (hzc M _ c' hc').2⟩
      · exact hk.elim
    · exact hk.elim
  · exact hk.elim

theorem store_sound (hT : TabOK P tab) (h : Inv X M0 w0 M ρ st a w) {o : Oper} {t : TypeId} {x y : Operand} (ho : o.op = .store t x y) {K : St → Prop} (hk : beff tab o st K) :
    ∃ st' w', (execOp a.eval o).run P w = .ok .skip w' ∧ Inv X M0 w0 M ρ st' a w' ∧ st'.tmps = st.tmps ∧ K (st'.put o.dst .undef) := by
  obtain ⟨dst, op, type, pos, after, guard⟩ := o
  simp only at ho
  subst ho
  unfold beff at hk
  simp only at hk
  split at hk
  · rename_i i b off vs ht hx hy
    rw [bindK_iff] at hk
    obtain ⟨cs, hcs, hl, hle, hk⟩ := hk
    obtain ⟨h1, h2⟩ := boxCells_ok (evT_ok h.evl (fun _ => rfl) t y) hy
    have hxr := h.evl x
    rw [hx] at hxr
    obtain ⟨b', hb', hbox, _⟩ := h.boxes b cs hcs
    obtain ⟨vals, T, hh, hs, hc⟩ := hbox.at_
    generalize hv : a.eval x = v at hxr
    cases hxr with
    | box _ _ bb hbb =>
      obtain rfl : bb = b' := by rw [hbb] at hb'; injection hb'
      have hst := run_storeCells_at P bb off T (a.eval y).cells.toList 0 vals w hh (by simp; omega) (by
        intro u hu
        obtain ⟨j, hj, rfl⟩ := List.getElem_of_mem hu
        have hj' : j < (a.eval y).cells.size := by simpa using hj
        have := (h2 j (vs[j]'(by omega)) (List.getElem?_eq_getElem _)).2
        simpa [Array.getD, hj'] using this)
      simp only [Nat.add_zero] at hst
      refine ⟨_, _, ?_, h.setBox (cs' := lay cs off vs) hcs hbb hh (vs' := (lay vals.toList off (a.eval y).cells.toList).toArray) ?_ ?_, rfl, hk⟩
      · have hnz : ¬ (a.eval y).cells.size ≠ i.size := by omega
        have hst' : (storeCells ⟨bb, off, none⟩ (a.eval y).cells.toList).run P w = .ok () (w.setRow bb (lay vals.toList off (a.eval y).cells.toList).toArray) := hst
        simp only [execOp, hv, Instr.storeAt, Instr.sureAddr, storeVar, Sem.run_bind, Sem.run_pure, Result.andThen_ok, run_sizeOf (hT t i ht), hnz, if_false, hst']
      · simp only [List.size_toArray]
        rw [lay_length _ _ _ (by simp; omega), lay_length _ _ _ (by omega)]
        simpa using hs
      · intro j c hj
        rw [lay_getElem? _ _ _ (by omega)] at hj
        have hlv : off + (a.eval y).cells.toList.length ≤ vals.toList.length := by simp; omega
        have e1 : (lay vals.toList off (a.eval y).cells.toList).toArray.getD j undef = ((lay vals.toList off (a.eval y).cells.toList)[j]?).getD undef := by
          simp [Array.getD_eq_getD_getElem?]
        rw [e1, lay_getElem? _ _ _ hlv]
        have hlen : (a.eval y).cells.toList.length = vs.length := by simpa using h1
        rw [hlen]
        by_cases c1 : j < off
        · rw [if_pos c1] at hj ⊢
          have := hc j c hj
          simpa [Array.getD_eq_getD_getElem?] using this
        · rw [if_neg c1] at hj ⊢
          by_cases c2 : j < off + vs.length
          · rw [if_pos c2] at hj ⊢
            have := h2 _ c hj
            simpa [Array.getD_eq_getD_getElem?] using this
          · rw [if_neg c2] at hj ⊢
            have := hc j c hj
            simpa [Array.getD_eq_getD_getElem?] using this
  · exact hk.elim

end
end Go.Ax
